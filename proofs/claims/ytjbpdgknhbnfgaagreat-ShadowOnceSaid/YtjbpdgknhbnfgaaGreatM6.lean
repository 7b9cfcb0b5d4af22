/- A part of the walks of the program's functions, each a contract that its caller uses; no condition but what each theorem names. A shadow store in memory; how it is carried along. The walks of package shadow: pages, works, at, bad, put, Count. The walk of shadow.put. The walk of shadow.fresh. The walk of shadow.New. The walk of shadow.New where no hole is. The walks of shadow.Drop and shadow.Read. The walk of shadow.Read. -/
import Derived.Test.YtjbpdgknhbnfgaaGreatM5
import Derived.IntWalk

namespace Go.Proofs.YtjbpdgknhbnfgaaGreat
open Go.RowKit

structure StoreB where
  s : Nat
  d : DiskB
  m : MapB
  tv : Value
  ov : Value
  pv : Value
def StoreB.set (b : StoreB) : List Nat := b.s :: (b.d.set ++ (b.m.set ++ (ownBlk b.tv ++ (ownBlk b.ov ++ ownBlk b.pv))))
def storeCells (b : StoreB) (S : Store) : List Value := [ptrV b.d.d, ptrV b.m.m, b.tv, b.ov, b.pv, intV S.epoch, intV S.slot, .bool S.broken]

/-- The store S lies in memory, in the blocks b. -/
structure StoreAt (w : World) (b : StoreB) (S : Store) : Prop where
  d : DiskAt w b.d S.d
  m : MapAt w b.m S.m
  t : Own w 3 1 b.tv S.table.length (ints S.table)
  o : Own w 3 1 b.ov S.old.length (ints S.old)
  p : Own w 3 1 b.pv S.parts.length (ints S.parts)
  st : Blk w b.s 115 (storeCells b S)
  nodup : b.set.Nodup

theorem StoreAt.lt {w : World} {b : StoreB} {S : Store} (h : StoreAt w b S) : ∀ k ∈ b.set, k < w.heap.size := by
  intro k hk
  simp only [StoreB.set, List.mem_cons, List.mem_append] at hk
  rcases hk with rfl | hk | hk | hk | hk | hk
  · exact h.st.lt
  · exact h.d.lt k hk
  · exact h.m.lt k hk
  · exact h.t.lt k hk
  · exact h.o.lt k hk
  · exact h.p.lt k hk

/-- No two parts of the store share a block. -/
structure StoreB.Apart (b : StoreB) : Prop where
  sd : b.s ∉ b.d.set
  sm : b.s ∉ b.m.set
  s_t : b.s ∉ ownBlk b.tv
  so : b.s ∉ ownBlk b.ov
  s_p : b.s ∉ ownBlk b.pv
  dm : ∀ k ∈ b.d.set, k ∉ b.m.set
  dt : ∀ k ∈ b.d.set, k ∉ ownBlk b.tv
  d_o : ∀ k ∈ b.d.set, k ∉ ownBlk b.ov
  dp : ∀ k ∈ b.d.set, k ∉ ownBlk b.pv
  mt : ∀ k ∈ b.m.set, k ∉ ownBlk b.tv
  mo : ∀ k ∈ b.m.set, k ∉ ownBlk b.ov
  mp : ∀ k ∈ b.m.set, k ∉ ownBlk b.pv
  t_o : ∀ k ∈ ownBlk b.tv, k ∉ ownBlk b.ov
  t_p : ∀ k ∈ ownBlk b.tv, k ∉ ownBlk b.pv
  o_p : ∀ k ∈ ownBlk b.ov, k ∉ ownBlk b.pv

theorem StoreB.apart {b : StoreB} (h : b.set.Nodup) : b.Apart := by
  unfold StoreB.set at h
  rw [List.nodup_cons] at h
  obtain ⟨hs, h⟩ := h
  simp only [List.mem_append, not_or] at hs
  rw [List.nodup_append] at h
  obtain ⟨_, h, hd⟩ := h
  rw [List.nodup_append] at h
  obtain ⟨_, h, hm⟩ := h
  rw [List.nodup_append] at h
  obtain ⟨_, h, ht⟩ := h
  rw [List.nodup_append] at h
  obtain ⟨_, _, ho⟩ := h
  exact ⟨hs.1, hs.2.1, hs.2.2.1, hs.2.2.2.1, hs.2.2.2.2,
    fun k hk hm' => hd k hk k (by simp [hm']) rfl, fun k hk hm' => hd k hk k (by simp [hm']) rfl, fun k hk hm' => hd k hk k (by simp [hm']) rfl, fun k hk hm' => hd k hk k (by simp [hm']) rfl,
    fun k hk hm' => hm k hk k (by simp [hm']) rfl, fun k hk hm' => hm k hk k (by simp [hm']) rfl, fun k hk hm' => hm k hk k (by simp [hm']) rfl,
    fun k hk hm' => ht k hk k (by simp [hm']) rfl, fun k hk hm' => ht k hk k (by simp [hm']) rfl, fun k hk hm' => ho k hk k hm' rfl⟩

theorem StoreB.Apart.nodup {b : StoreB} (h : b.Apart) (hd : b.d.set.Nodup) (hm : b.m.set.Nodup) : b.set.Nodup := by
  have hown : ∀ v, (ownBlk v).Nodup := fun v => by
    unfold ownBlk
    split <;> simp
  unfold StoreB.set
  rw [List.nodup_cons]
  refine ⟨by simp [h.sd, h.sm, h.s_t, h.so, h.s_p], ?_⟩
  rw [List.nodup_append]
  refine ⟨hd, ?_, fun a ha c hc e => ?_⟩
  · rw [List.nodup_append]
    refine ⟨hm, ?_, fun a ha c hc e => ?_⟩
    · rw [List.nodup_append]
      refine ⟨hown _, ?_, fun a ha c hc e => ?_⟩
      · rw [List.nodup_append]
        exact ⟨hown _, hown _, fun a ha c hc e => h.o_p a ha (e ▸ hc)⟩
      · subst e
        simp only [List.mem_append] at hc
        rcases hc with hc | hc
        · exact h.t_o a ha hc
        · exact h.t_p a ha hc
    · subst e
      simp only [List.mem_append] at hc
      rcases hc with hc | hc | hc
      · exact h.mt a ha hc
      · exact h.mo a ha hc
      · exact h.mp a ha hc
  · subst e
    simp only [List.mem_append] at hc
    rcases hc with hc | hc | hc | hc
    · exact h.dm a ha hc
    · exact h.dt a ha hc
    · exact h.d_o a ha hc
    · exact h.dp a ha hc

theorem StoreAt.kept {w w' : World} {b : StoreB} {S : Store} {F : List Nat} (h : StoreAt w b S) (hc : Chg F w w') (hn : ∀ k ∈ b.set, k ∉ F) : StoreAt w' b S := by
  have hm : ∀ k, (k = b.s ∨ k ∈ b.d.set ∨ k ∈ b.m.set ∨ k ∈ ownBlk b.tv ∨ k ∈ ownBlk b.ov ∨ k ∈ ownBlk b.pv) → k ∉ F := fun k hk => hn k (by simpa [StoreB.set] using hk)
  exact ⟨h.d.kept hc fun k hk => hm k (by simp [hk]), h.m.kept hc fun k hk => hm k (by simp [hk]), h.t.kept hc fun k hk => hm k (by simp [hk]), h.o.kept hc fun k hk => hm k (by simp [hk]),
    h.p.kept hc fun k hk => hm k (by simp [hk]), h.st.kept hc (hm _ (by simp)), h.nodup⟩

theorem StoreAt.drewN {w : World} {b : StoreB} {S : Store} (h : StoreAt w b S) (n : Nat) : StoreAt (w.drewN n) b S :=
  h.kept (F := []) ((Chg.refl _ _).drewN n) (by simp)
theorem StoreAt.drew {w : World} {b : StoreB} {S : Store} (h : StoreAt w b S) : StoreAt w.drew b S :=
  h.kept (F := []) ((Chg.refl _ _).drew) (by simp)

theorem StoreAt.onD {w w' : World} {b : StoreB} {S : Store} {D : Disk} (h : StoreAt w b S) (hd : DiskAt w' b.d D) (hc : Chg b.d.set w w') : StoreAt w' b { S with d := D } := by
  have a := StoreB.apart h.nodup
  exact ⟨hd, h.m.kept hc fun k hk hm => a.dm k hm hk, h.t.kept hc fun k hk hm => a.dt k hm hk, h.o.kept hc fun k hk hm => a.d_o k hm hk, h.p.kept hc fun k hk hm => a.dp k hm hk, h.st.kept hc a.sd, h.nodup⟩

theorem StoreAt.onM {w w' : World} {b : StoreB} {S : Store} {M : FMap} (h : StoreAt w b S) (hm : MapAt w' b.m M) (hc : Chg b.m.set w w') : StoreAt w' b { S with m := M } := by
  have a := StoreB.apart h.nodup
  exact ⟨h.d.kept hc fun k hk hm => a.dm k hk hm, hm, h.t.kept hc fun k hk hm => a.mt k hm hk, h.o.kept hc fun k hk hm => a.mo k hm hk, h.p.kept hc fun k hk hm => a.mp k hm hk, h.st.kept hc a.sm, h.nodup⟩

/-- Its table has grown, and the struct names the new one. -/
theorem StoreAt.onT {w w' : World} {b : StoreB} {S : Store} {tv : Value} {T : List Int} (h : StoreAt w b S) (ht : Own w' 3 1 tv T.length (ints T)) (hc : Chg (ownBlk b.tv) w w')
    (hg : ∀ k ∈ ownBlk tv, k ∈ ownBlk b.tv ∨ w.heap.size ≤ k) : StoreAt (w'.setCell ⟨b.s, 2, none⟩ tv) { b with tv := tv } { S with table := T } := by
  have a := StoreB.apart h.nodup
  have hlt := h.lt
  have hmem : ∀ k, (k = b.s ∨ k ∈ b.d.set ∨ k ∈ b.m.set ∨ k ∈ ownBlk b.tv ∨ k ∈ ownBlk b.ov ∨ k ∈ ownBlk b.pv) → k < w.heap.size := fun k hk => hlt k (by simpa [StoreB.set] using hk)
  have hs : b.s ∉ ownBlk tv := fun hk => by
    rcases hg _ hk with h1 | h1
    · exact a.s_t h1
    · have := hmem b.s (by simp); omega
  have hc2 : Chg [b.s] w' (w'.setCell ⟨b.s, 2, none⟩ tv) := (Chg.refl _ _).setCell _ _ (.inl (by simp))
  have hap : StoreB.Apart { b with tv := tv } := by
    refine { a with s_t := hs, dt := fun k hk hm => ?_, mt := fun k hk hm => ?_, t_o := fun k hk hm => ?_, t_p := fun k hk hm => ?_ }
    · rcases hg _ hm with h1 | h1
      · exact a.dt k hk h1
      · have := hmem k (by simp [hk]); omega
    · rcases hg _ hm with h1 | h1
      · exact a.mt k hk h1
      · have := hmem k (by simp [hk]); omega
    · rcases hg _ hk with h1 | h1
      · exact a.t_o k h1 hm
      · have := hmem k (by simp [show k ∈ ownBlk b.ov from hm]); omega
    · rcases hg _ hk with h1 | h1
      · exact a.t_p k h1 hm
      · have := hmem k (by simp [show k ∈ ownBlk b.pv from hm]); omega
  refine ⟨(h.d.kept hc fun k hk hm => a.dt k hk hm).kept hc2 fun k hk hm => ?_, (h.m.kept hc fun k hk hm => a.mt k hk hm).kept hc2 fun k hk hm => ?_, ht.kept hc2 fun k hk hm => ?_,
    (h.o.kept hc fun k hk hm => a.t_o k hm hk).kept hc2 fun k hk hm => ?_, (h.p.kept hc fun k hk hm => a.t_p k hm hk).kept hc2 fun k hk hm => ?_, ?_, hap.nodup h.d.nodup (by simpa [MapB.set] using h.m.ne)⟩
  · simp at hm; subst hm; exact a.sd hk
  · simp at hm; subst hm; exact a.sm hk
  · simp at hm; subst hm; exact hs hk
  · simp at hm; subst hm; exact a.so hk
  · simp at hm; subst hm; exact a.s_p hk
  · exact (h.st.kept hc a.s_t).set 2 tv

/-- One entry of its table has been set. -/
theorem StoreAt.setT {w : World} {b : StoreB} {S : Store} (h : StoreAt w b S) {g cap : Nat} (hv : b.tv = .slice (some ⟨g, 0, none⟩) S.table.length cap) (i : Nat) (hi : i < S.table.length) (x : Int) :
    StoreAt (w.setCell ⟨g, i, none⟩ (intV x)) b { S with table := S.table.set i x } := by
  have a := StoreB.apart h.nodup
  have hcap : g ∈ ownBlk b.tv := by
    obtain ⟨g', cap', cur, hv', _, hle, hpos, _⟩ := h.t.pos (by omega)
    rw [hv] at hv' ⊢
    simp at hv'
    obtain ⟨rfl, rfl⟩ := hv'
    obtain ⟨c, rfl⟩ : ∃ c, cap = c + 1 := ⟨cap - 1, by omega⟩
    simp [ownBlk]
  have hc : Chg [g] w (w.setCell ⟨g, i, none⟩ (intV x)) := (Chg.refl _ _).setCell _ _ (.inl (by simp))
  have ht := h.t.set hv i hi (intV x)
  refine ⟨h.d.kept hc fun k hk hm => ?_, h.m.kept hc fun k hk hm => ?_, ?_, h.o.kept hc fun k hk hm => ?_, h.p.kept hc fun k hk hm => ?_, h.st.kept hc fun hm => ?_, h.nodup⟩
  · simp at hm; subst hm; exact a.dt k hk hcap
  · simp at hm; subst hm; exact a.mt k hk hcap
  · simpa [ints, List.map_set] using ht
  · simp at hm; subst hm; exact a.t_o k hcap hk
  · simp at hm; subst hm; exact a.t_p k hcap hk
  · simp at hm; rw [← hm] at hcap; exact a.s_t hcap

end Go.Proofs.YtjbpdgknhbnfgaaGreat

namespace Go.Proofs.YtjbpdgknhbnfgaaGreat
open Go.RowKit

structure Store.Ok (S : Store) : Prop where
  ep : 0 ≤ S.epoch ∧ S.epoch ≤ 1099511627775
  tl : S.table.length ≤ 512
  ml : S.m.length = S.d.pages
  hi : ∀ p ∈ S.table, p < S.d.pages
  lo : ∀ p ∈ S.table, -1 ≤ p

theorem StoreAt.cells {w : World} {b : StoreB} {S : Store} (h : StoreAt w b S) :
    w.cell? ⟨b.s, 0, none⟩ = some (ptrV b.d.d) ∧ w.cell? ⟨b.s, 1, none⟩ = some (ptrV b.m.m) ∧ w.cell? ⟨b.s, 2, none⟩ = some b.tv ∧ w.cell? ⟨b.s, 5, none⟩ = some (intV S.epoch) ∧ w.cell? ⟨b.s, 7, none⟩ = some (.bool S.broken) :=
  ⟨h.st.cell 0, h.st.cell 1, h.st.cell 2, h.st.cell 5, h.st.cell 7⟩

theorem shadow_pages {w : World} {b : DiskB} {D : Disk} (h : DiskAt w b D) :
    Calls Tryz.prog 94 #[ptrV b.d] w fun e w' => e = .returned (intV D.pages) ∧ w = w' := by
  have HM := Lib.hid (page_many h)
  unfold Disk.pages
  have hm : D.many ≤ 4096 := by
    have := h.ok.few
    unfold Disk.many Disk.sectors
    omega
  generalize D.many = m at *
  clear h
  by_cases h1 : m ≤ 1024
  · rw [show min m 1024 = m by omega]
    have h2 : (m : Int) ≤ 1024 := by omega
    go_enter Tryz.func94, Tryz.ntmps94
    go_wp2_with (go_at_call 151; refine HM.out.mono ?_; rintro e w' ⟨rfl, rfl⟩)
    go_ret
    exact ⟨rfl, rfl⟩
  · rw [show min m 1024 = 1024 by omega]
    have h2 : 1024 < (m : Int) := by omega
    go_enter Tryz.func94, Tryz.ntmps94
    go_wp2_with (go_at_call 151; refine HM.out.mono ?_; rintro e w' ⟨rfl, rfl⟩)
    go_ret
    exact ⟨rfl, rfl⟩

theorem store_works {w : World} {b : StoreB} {S : Store} (h : StoreAt w b S) :
    Calls Tryz.prog 86 #[ptrV b.s] w fun e w' => e = .returned (intV S.works) ∧ w = w' := by
  obtain ⟨-, -, -, -, h7⟩ := h.cells
  unfold Store.works
  clear h
  cases hd : S.broken <;> rw [hd] at h7
  all_goals
    clear hd
    go_enter Tryz.func86, Tryz.ntmps86
    go_wp2
    go_ret
    exact ⟨rfl, rfl⟩

theorem shadow_bad (x : Int) (w : World) :
    Calls Tryz.prog 91 #[intV x] w fun e w' => e = .returned (intV (badErr x)) ∧ w = w' := by
  unfold badErr
  by_cases hx : x = 13
  · subst hx
    rw [if_pos rfl]
    go_enter Tryz.func91, Tryz.ntmps91
    go_wp2
    go_ret
    exact ⟨rfl, rfl⟩
  · rw [if_neg hx]
    have hb : (x == 13) = false := by simpa using hx
    clear hx
    go_enter Tryz.func91, Tryz.ntmps91
    go_wp2
    go_ret
    exact ⟨rfl, rfl⟩

theorem store_count {w : World} {b : StoreB} {S : Store} (h : StoreAt w b S) :
    Calls Tryz.prog 23 #[ptrV b.s] w fun e w' => e = .returned (FMap.countV S.m) ∧ Chg [] w w' := by
  obtain ⟨-, h1, -, -, -⟩ := h.cells
  have HC := Lib.hid (map_count h.m)
  unfold FMap.countV at *
  generalize ((FMap.list S.m 0).length : Int) = x0 at *
  generalize ((FMap.list S.m 1).length : Int) = x1 at *
  generalize ((FMap.list S.m 2).length : Int) = x2 at *
  generalize ((FMap.list S.m 3).length : Int) = x3 at *
  clear h
  go_enter Tryz.func23, Tryz.ntmps23
  go_wp2_with (go_at_call 79; refine HC.out.mono ?_; rintro e w' ⟨rfl, hc⟩)
  exact bodyPost_ret (v := .tuple #[intV x0, intV x1, intV x2, intV x3]) (by simp [results, Tryz.results23, go_sem]) rfl ⟨rfl, hc⟩

theorem table_cell {w : World} {b : StoreB} {S : Store} (h : StoreAt w b S) (i : Nat) (hi : i < S.table.length) :
    ∃ g cap, b.tv = .slice (some ⟨g, 0, none⟩) S.table.length cap ∧ w.cell? ⟨g, i, none⟩ = some (intV (S.table[i])) ∧ w.frozen? ⟨g, i, none⟩ = false ∧ S.table.length ≤ cap ∧ cap ≤ maxLen := by
  obtain ⟨g, cap, cur, hv, -, hB, hn, h1, -, -⟩ := h.t.pos (by omega)
  have hc := h.t.cell hv hi
  refine ⟨g, cap, hv, ?_, hB.free i, hn, h1⟩
  rw [hc.1, ints_get, List.getElem?_eq_getElem hi]
  rfl

theorem Store.tab_of {S : Store} {i : Nat} (h : i < S.table.length) : S.tab i = S.table[i] := by
  simp [Store.tab, List.getD, h]

theorem store_at {w : World} {b : StoreB} {S : Store} (h : StoreAt w b S) (hok : S.Ok) (l : Int) :
    Calls Tryz.prog 89 #[ptrV b.s, intV l] w fun e w' => e = .returned (intV (S.at_ l)) ∧ w = w' := by
  obtain ⟨-, -, h2, -, -⟩ := h.cells
  have hw := store_works h
  have htl := hok.tl
  unfold Store.works at hw
  unfold Store.at_
  obtain ⟨ad, c, htv, hnc, hcm⟩ := h.t.shape
  by_cases hbr : S.broken = true
  · rw [if_pos hbr] at hw ⊢
    rw [htv] at h2
    have HW := Lib.hid hw
    clear hw hok h hbr htv
    generalize S.table.length = n at *
    go_enter Tryz.func89, Tryz.ntmps89
    go_wp2_with (go_at_call 86; refine HW.out.mono ?_; rintro e w' ⟨rfl, rfl⟩)
    go_ret
    exact ⟨rfl, rfl⟩
  · rw [if_neg hbr] at hw ⊢
    have HW := Lib.hid hw
    clear hw hbr
    by_cases hl0 : l < 0
    · rw [if_pos (.inl hl0)]
      rw [htv] at h2
      clear hok h htv
      generalize S.table.length = n at *
      go_enter Tryz.func89, Tryz.ntmps89
      go_wp2_with (go_at_call 86; refine HW.out.mono ?_; rintro e w' ⟨rfl, rfl⟩)
      go_ret
      exact ⟨rfl, rfl⟩
    · by_cases hl1 : (S.table.length : Int) ≤ l
      · rw [if_pos (.inr (.inl hl1))]
        rw [htv] at h2
        clear hok h htv
        generalize S.table.length = n at *
        go_enter Tryz.func89, Tryz.ntmps89
        go_wp2_with (go_at_call 86; refine HW.out.mono ?_; rintro e w' ⟨rfl, rfl⟩)
        go_ret
        exact ⟨rfl, rfl⟩
      · obtain ⟨i, rfl⟩ : ∃ i : Nat, l = i := ⟨l.toNat, by omega⟩
        obtain ⟨g, cap, hv, hcell, -, -, hcm2⟩ := table_cell h i (by omega)
        rw [Store.tab_of (by omega)]
        rw [hv] at h2
        have hlt : (i : Int) < (S.table.length : Int) := by omega
        clear htv hok hnc hcm hl0 h
        by_cases hneg : S.table[i] < 0
        · rw [if_pos (.inr (.inr hneg))]
          generalize S.table[i] = p at *
          generalize S.table.length = n at *
          clear hv hl1
          go_enter Tryz.func89, Tryz.ntmps89
          go_wp2_with (go_at_call 86; refine HW.out.mono ?_; rintro e w' ⟨rfl, rfl⟩)
          go_ret
          exact ⟨rfl, rfl⟩
        · rw [if_neg (by omega)]
          generalize S.table[i] = p at *
          generalize S.table.length = n at *
          clear hv hl1
          go_enter Tryz.func89, Tryz.ntmps89
          go_wp2_with (go_at_call 86; refine HW.out.mono ?_; rintro e w' ⟨rfl, rfl⟩)
          go_ret
          exact ⟨rfl, rfl⟩

theorem Disk.pages_le (D : Disk) : D.pages ≤ D.many ∧ D.pages ≤ 1024 := by unfold Disk.pages; omega

theorem pageWrite_ok {D : Disk} {p : Page} (hr : p.right = true) (hl : p.payload.length ≤ 232) (hn : p.id < D.many) : pageWrite D p = D.writes (2 + p.id * 4) p.bytes 4 := by
  have hp : pagePut p = (p.bytes, 0) := by
    unfold pagePut
    rw [if_neg (by simp [hr]), if_neg (by omega)]
  unfold pageWrite
  rw [hp, if_neg (by simp), if_neg (by omega)]

end Go.Proofs.YtjbpdgknhbnfgaaGreat

namespace Go.Proofs.YtjbpdgknhbnfgaaGreat
open Go.RowKit

theorem store_put {w : World} {b : StoreB} {S : Store} (h : StoreAt w b S) (hok : S.Ok) (n : Nat) (hn : n < S.d.pages) (kd : Int) (hk : 0 ≤ kd ∧ kd ≤ 2147483647) (pl : Bytes) (hl : pl.length ≤ 232) :
    Calls Tryz.prog 100 #[ptrV b.s, intV n, intV kd, strV pl] w fun e w' => e = .returned (intV (S.put n kd pl).1) ∧ StoreAt w' b (S.put n kd pl).2 ∧ Chg b.d.set w w' := by
  obtain ⟨h0, -, -, h5, -⟩ := h.cells
  have hep := hok.ep
  have hr : Page.right ⟨n, S.epoch + 1, kd, pl⟩ = true := by
    simp [Page.right]
    omega
  have hpl := Disk.pages_le S.d
  have hpw := pageWrite_ok (D := S.d) hr hl (by show (n : Int) < _; omega)
  have hwr := page_write_ok (w := w.drew) (h.d.kept (F := []) ((Chg.refl _ _).drew) (by simp)) n (S.epoch + 1) kd pl hr hl (by omega)
  unfold Store.put
  rw [hpw]
  dsimp only
  generalize S.d.writes (2 + (n : Int) * 4) (Page.bytes ⟨n, S.epoch + 1, kd, pl⟩) 4 = r at *
  obtain ⟨re, rD⟩ := r
  have HW := Lib.hid hwr
  have HH := Lib.hid h.drew
  obtain ⟨ep, he⟩ : ∃ ep, S.epoch = ep := ⟨_, rfl⟩
  rw [he] at h5 hep HW
  have HE := Lib.hid he
  clear hwr hpw hr hok hn h hpl he
  have e1 : IntKind.i64.wrap (ep + 1) = ep + 1 := IntWalk.i64_in _ (by omega)
  go_enter Tryz.func100, Tryz.ntmps100
  go_wp2_with fail
  go_region_held3 (fun w' => w'.cell? ⟨b.s, 0, none⟩ = some (ptrV b.d.d) ∧ w'.cell? ⟨b.s, 5, none⟩ = some (intV ep))
    (first | exact ⟨h0, h5⟩ | exact ⟨k0, k5⟩)
    (first
    | (go_at_call 162; refine (HW.out).mono ?_; rintro e w3 ⟨rfl, hd, hc⟩; have H3 := Lib.hid (HH.out.onD hd hc); obtain ⟨k0, -, -, k5, -⟩ := H3.out.cells; replace k5 := k5.trans (congrArg (fun x => some (intV x)) HE.out)))
  go_wp2_with fail
  go_ret
  exact ⟨rfl, H3.out, ((Chg.refl _ _).drew).trans1 hc⟩

end Go.Proofs.YtjbpdgknhbnfgaaGreat

namespace Go.Proofs.YtjbpdgknhbnfgaaGreat
open Go.RowKit

theorem FMap.take_yes {L : FMap} (h : FMap.first L < L.length) : FMap.take L = ((FMap.first L : Int), 0, List.set L (FMap.first L) 2) := by
  unfold FMap.take
  rw [if_pos h]
theorem FMap.take_no {L : FMap} (h : ¬ FMap.first L < L.length) : FMap.take L = (0, 11, L) := by
  unfold FMap.take
  rw [if_neg h]
theorem Store.Ok.setM {S : Store} (h : S.Ok) (M : FMap) (hm : M.length = S.m.length) : Store.Ok { S with m := M } :=
  ⟨h.ep, h.tl, hm.trans h.ml, h.hi, h.lo⟩

theorem store_fresh {w : World} {b : StoreB} {S : Store} (h : StoreAt w b S) (hok : S.Ok) (pl : Bytes) (hl : pl.length ≤ 232) :
    Calls Tryz.prog 88 #[ptrV b.s, strV pl] w fun e w' => e = .returned (.tuple #[intV (S.fresh pl).1, intV (S.fresh pl).2.1]) ∧ StoreAt w' b (S.fresh pl).2.2 ∧ Chg (b.d.set ++ b.m.set) w w' := by
  obtain ⟨-, k1, -, -, -⟩ := h.cells
  have hmt := map_take h.m
  unfold Store.fresh
  by_cases hf : FMap.first S.m < S.m.length
  · rw [FMap.take_yes hf] at hmt ⊢
    dsimp only at hmt ⊢
    rw [if_neg (by simp)]
    have hput : ∀ w1, StoreAt w1 b { S with m := List.set S.m (FMap.first S.m) 2 } → _ := fun w1 h1 => store_put h1 (hok.setM _ (by simp)) (FMap.first S.m) (by show FMap.first S.m < S.d.pages; rw [← hok.ml]; exact hf) 2 (by omega) pl hl
    generalize Store.put { S with m := List.set S.m (FMap.first S.m) 2 } (FMap.first S.m : Int) 2 pl = r at *
    obtain ⟨re, rS⟩ := r
    dsimp only at hput ⊢
    have HMT := Lib.hid hmt
    have HPUT := Lib.hid hput
    have HH := Lib.hid h
    have hsub : ∀ k ∈ b.m.set, k ∈ b.d.set ++ b.m.set := fun k hk => by simp [hk]
    have hsub2 : ∀ k ∈ b.d.set, k ∈ b.d.set ++ b.m.set := fun k hk => by simp [hk]
    have HS1 := Lib.hid hsub
    have HS2 := Lib.hid hsub2
    clear hmt hput h hok hsub hsub2 hf
    by_cases hre : re = 0
    · subst hre
      rw [if_neg (by simp)]
      generalize (FMap.first S.m) = n at *
      go_enter Tryz.func88, Tryz.ntmps88
      go_wp2_with (first
        | (go_at_call 104; refine HMT.out.mono ?_; rintro e w1 ⟨rfl, hm1, hc1⟩; have H1 := Lib.hid (HH.out.onM hm1 hc1); have C1 := Lib.hid (hc1.mono HS1.out); clear hm1 hc1)
        | (go_at_call 100; refine (HPUT.out _ H1.out).mono ?_; rintro e w2 ⟨rfl, h2, hc2⟩; have H2 := Lib.hid h2; have C2 := Lib.hid (C1.out.trans1 (hc2.mono HS2.out)); clear h2 hc2))
      go_ret2
      exact ⟨rfl, H2.out, C2.out⟩
    · rw [if_pos hre]
      have hb : (re == 0) = false := by simpa using hre
      have hb2 : (re != 0) = true := by simpa using hre
      have hlv : ∀ w2, StoreAt w2 b rS → _ := fun w2 h2 => map_leave h2.m (FMap.first S.m)
      generalize FMap.leave rS.m (FMap.first S.m : Int) = lv at *
      obtain ⟨lve, lvM⟩ := lv
      dsimp only at hlv ⊢
      have HLV := Lib.hid hlv
      clear hlv hre
      generalize (FMap.first S.m) = n at *
      go_enter Tryz.func88, Tryz.ntmps88
      go_wp2_with (first
        | (go_at_call 104; refine HMT.out.mono ?_; rintro e w1 ⟨rfl, hm1, hc1⟩; have H1 := Lib.hid (HH.out.onM hm1 hc1); have C1 := Lib.hid (hc1.mono HS1.out); clear hm1 hc1)
        | (go_at_call 100; refine (HPUT.out _ H1.out).mono ?_; rintro e w2 ⟨rfl, h2, hc2⟩; obtain ⟨-, j1, -, -, -⟩ := h2.cells; have H2 := Lib.hid h2; have C2 := Lib.hid (C1.out.trans1 (hc2.mono HS2.out)); clear h2 hc2)
        | (go_at_call 101; refine (HLV.out _ H2.out).mono ?_; rintro e w3 ⟨rfl, hm3, hc3⟩; have H3 := Lib.hid (H2.out.onM hm3 hc3); have C3 := Lib.hid (C2.out.trans1 (hc3.mono HS1.out)); clear hm3 hc3))
      go_ret2
      exact ⟨rfl, H3.out, C3.out⟩
  · rw [FMap.take_no hf] at hmt ⊢
    dsimp only at hmt ⊢
    rw [if_pos (by simp)]
    have HMT := Lib.hid hmt
    have HH := Lib.hid h
    clear hmt hok h hf
    go_enter Tryz.func88, Tryz.ntmps88
    go_wp2_with (go_at_call 104; refine HMT.out.mono ?_; rintro e w1 ⟨rfl, hm1, hc1⟩)
    go_ret2
    exact ⟨rfl, HH.out.onM hm1 hc1, hc1.mono (fun k hk => by simp [hk])⟩

end Go.Proofs.YtjbpdgknhbnfgaaGreat

namespace Go.Proofs.YtjbpdgknhbnfgaaGreat
open Go.RowKit

/-- The store at b has become S'; its blocks were its own before, or are new. -/
def StoreB.sd (b : StoreB) : Nat × DiskB := (b.s, b.d)
theorem StoreB.sd_s {b b' : StoreB} (h : b'.sd = b.sd) : b'.s = b.s := congrArg Prod.fst h
theorem StoreB.sd_d {b b' : StoreB} (h : b'.sd = b.sd) : b'.d = b.d := congrArg Prod.snd h
def StoreTo (b : StoreB) (w w' : World) (S' : Store) : Prop := ∃ b', b'.sd = b.sd ∧ StoreAt w' b' S' ∧ Grew b.set b'.set w w'

theorem StoreTo.same {b : StoreB} {w w' : World} {S S' : Store} {F : List Nat} (h0 : StoreAt w b S) (h : StoreAt w' b S') (hc : Chg F w w') (hF : ∀ k ∈ F, k ∈ b.set) : StoreTo b w w' S' :=
  ⟨b, rfl, h, Grew.same (hc.mono hF) h0.lt⟩

theorem dm_sub (b : StoreB) : ∀ k ∈ b.d.set ++ b.m.set, k ∈ b.set := fun k hk => by
  simp only [List.mem_append] at hk
  simp only [StoreB.set, List.mem_cons, List.mem_append]
  rcases hk with hk | hk <;> simp [hk]
theorem d_sub (b : StoreB) : ∀ k ∈ b.d.set, k ∈ b.set := fun k hk => dm_sub b k (by simp [hk])
theorem m_sub (b : StoreB) : ∀ k ∈ b.m.set, k ∈ b.set := fun k hk => dm_sub b k (by simp [hk])

theorem Store.put_keeps (S : Store) (id kind : Int) (p : Bytes) : (S.put id kind p).2.table = S.table ∧ (S.put id kind p).2.m = S.m ∧ (S.put id kind p).2.epoch = S.epoch ∧ (S.put id kind p).2.broken = S.broken := ⟨rfl, rfl, rfl, rfl⟩
theorem Store.fresh_table (S : Store) (p : Bytes) : (S.fresh p).2.2.table = S.table := by
  unfold Store.fresh
  dsimp only
  split
  · rfl
  · split
    · rfl
    · rfl

theorem Store.hole_le (S : Store) : S.hole ≤ S.table.length := List.findIdx_le_length

theorem StoreTo.grown {b : StoreB} {w w0 w' : World} {S S' : Store} {F : List Nat} {tv : Value} {T : List Int} (_ : StoreAt w b S) (hc0 : Chg F w w0) (hF : ∀ k ∈ F, k ∈ b.set) (h : StoreAt w0 b S')
    (ht : Own w' 3 1 tv T.length (ints T)) (hc : Chg (ownBlk b.tv) w0 w') (hg : ∀ k ∈ ownBlk tv, k ∈ ownBlk b.tv ∨ w0.heap.size ≤ k) : StoreAt (w'.setCell ⟨b.s, 2, none⟩ tv) { b with tv := tv } { S' with table := T } ∧ Grew b.set (StoreB.set { b with tv := tv }) w (w'.setCell ⟨b.s, 2, none⟩ tv) := by
  have h1 := h.onT ht hc hg
  have htv : ∀ k ∈ ownBlk b.tv, k ∈ b.set := fun k hk => by simp [StoreB.set, hk]
  refine ⟨h1, ⟨(((hc0.mono hF).trans1 (hc.mono htv))).setCell _ _ (.inl (by simp [StoreB.set])), h1.lt, fun k hk => ?_⟩⟩
  simp only [StoreB.set, List.mem_cons, List.mem_append] at hk ⊢
  rcases hk with hk | hk | hk | hk | hk | hk
  · simp [hk]
  · simp [hk]
  · simp [hk]
  · rcases hg k hk with h2 | h2
    · simp [h2]
    · exact .inr (Nat.le_trans hc0.size h2)
  · simp [hk]
  · simp [hk]

theorem StoreTo.trans {b b1 : StoreB} {w w1 w2 : World} {S2 : Store} (h1 : b1.sd = b.sd) (g1 : Grew b.set b1.set w w1) (h2 : StoreTo b1 w1 w2 S2) : StoreTo b w w2 S2 := by
  obtain ⟨b2, e2, h2, g2⟩ := h2
  exact ⟨b2, e2.trans h1, h2, g1.trans g2⟩

theorem store_new_broken {w : World} {b : StoreB} {S : Store} (h : StoreAt w b S) (hbr : S.broken = true) (pl : Bytes) :
    Calls Tryz.prog 28 #[ptrV b.s, strV pl] w fun e w' => e = .returned (.tuple #[intV 0, intV 13]) ∧ w = w' := by
  have hw := store_works h
  unfold Store.works at hw
  rw [if_pos hbr] at hw
  have HW := Lib.hid hw
  clear hw h hbr
  go_enter Tryz.func28, Tryz.ntmps28
  go_wp2_with (go_at_call 86; refine HW.out.mono ?_; rintro e w' ⟨rfl, rfl⟩)
  go_ret2
  exact ⟨rfl, rfl⟩

theorem table_cell_u {w : World} {b : StoreB} {S : Store} (h : StoreAt w b S) (i : Nat) (hi : i < S.table.length) :
    ∃ g cap u, b.tv = .slice (some ⟨g, 0, none⟩) S.table.length cap ∧ w.cell? ⟨g, i, none⟩ = some u ∧ w.frozen? ⟨g, i, none⟩ = false ∧ S.table.length ≤ cap ∧ cap ≤ maxLen ∧ g ∈ b.set := by
  obtain ⟨g, cap, h1, h2, h3, h4, h5⟩ := table_cell h i hi
  refine ⟨g, cap, _, h1, h2, h3, h4, h5, ?_⟩
  obtain ⟨c, rfl⟩ : ∃ c, cap = c + 1 := ⟨cap - 1, by omega⟩
  simp [StoreB.set, h1, ownBlk]

set_option maxHeartbeats 1000000 in
set_option maxRecDepth 100000 in
theorem store_new_hole {w : World} {b : StoreB} {S : Store} (h : StoreAt w b S) (hok : S.Ok) (hbr : S.broken = false) (pl : Bytes) (hm : S.hole < S.table.length) (hlp : pl.length ≤ 60000) :
    Calls Tryz.prog 28 #[ptrV b.s, strV pl] w fun e w' => e = .returned (.tuple #[intV (S.new pl).1, intV (S.new pl).2.1]) ∧ StoreTo b w w' (S.new pl).2.2 := by
  have hw := store_works h
  unfold Store.works at hw
  rw [if_neg (by simp [hbr])] at hw
  obtain ⟨-, -, k2, -, -⟩ := h.cells
  have htl := hok.tl
  have hix := slices_index h.t (-1) (by omega)
  have hi : idxOf S.table (-1) = (S.hole : Int) := by
    unfold idxOf
    exact if_pos hm
  rw [hi] at hix
  have hft := Store.fresh_table S pl
  have hfresh := fun (hl : pl.length ≤ 232) => store_fresh h hok pl hl
  have HLT := Lib.hid hm
  unfold Store.new
  rw [if_neg (by simp [hbr])]
  by_cases hl : 232 < pl.length
  · rw [if_pos hl]
    have hl2 : (232 : Int) < (pl.length : Int) := by omega
    have HH := Lib.hid h
    have HW := Lib.hid hw
    have HIX := Lib.hid hix
    clear hw hix hfresh hft hi hok h hbr hl htl hm
    generalize S.hole = m at *
    go_enter Tryz.func28, Tryz.ntmps28
    go_wp2_with (first
      | (go_at_call 86; refine HW.out.mono ?_; rintro e w' ⟨rfl, rfl⟩)
      | (go_at_call 87; refine HIX.out.mono ?_; rintro e w' ⟨rfl, rfl⟩))
    go_ret2
    exact ⟨rfl, StoreTo.same HH.out HH.out (Chg.refl [] _) (by simp)⟩
  · rw [if_neg hl, if_neg (by omega)]
    have hfr := hfresh (by omega)
    generalize S.fresh pl = r at *
    obtain ⟨rp, re, rS⟩ := r
    dsimp only at hfr hft ⊢
    have hl2 : (pl.length : Int) ≤ 232 := by omega
    have hm2 : (S.hole : Int) < 512 := by omega
    have HH := Lib.hid h
    have HW := Lib.hid hw
    have HIX := Lib.hid hix
    have HFR := Lib.hid hfr
    have HFT := Lib.hid hft
    clear hw hix hfresh hi hok h hbr hl hfr
    by_cases hre : re = 0
    · subst hre
      rw [if_neg (by simp), if_neg (by omega)]
      have hms : S.hole < rS.table.length := by rw [hft]; exact hm
      have htc := fun (w2 : World) (h2 : StoreAt w2 b rS) => table_cell_u h2 S.hole hms
      have hle := (show rS.table.length ≤ 512 by rw [hft]; exact htl)
      have hne : ((S.hole : Int) == (rS.table.length : Int)) = false := by simp; omega
      have hlt3 : (S.hole : Int) < (rS.table.length : Int) := by omega
      rw [show S.table = rS.table from hft.symm]
      have hset := fun (w2 : World) (h2 : StoreAt w2 b rS) (g cap : Nat) hv => h2.setT (g := g) (cap := cap) hv S.hole hms rp
      have HTC := Lib.hid htc
      have HSET := Lib.hid hset
      clear hm hft htl htc hms hset
      generalize S.hole = m at *
      generalize rS.table.length = n at *
      clear HLT HFT
      go_enter Tryz.func28, Tryz.ntmps28
      go_wp2_with (first
        | (go_at_call 86; refine HW.out.mono ?_; rintro e w' ⟨rfl, rfl⟩)
        | (go_at_call 87; refine HIX.out.mono ?_; rintro e w' ⟨rfl, rfl⟩)
        | (go_at_call 88; refine HFR.out.mono ?_; rintro e w2 ⟨rfl, h2, hc2⟩; obtain ⟨g, cap, u, hv, hcell, hfz, hnc, hcm, hgb⟩ := HTC.out _ h2; obtain ⟨-, -, j2, -, -⟩ := h2.cells; rw [hv] at j2; have H2 := Lib.hid h2; have C2 := Lib.hid hc2; have HV := Lib.hid hv; have HGB := Lib.hid hgb; clear h2 hc2 hv hgb))
      go_ret2
      refine ⟨rfl, StoreTo.same HH.out (HSET.out _ H2.out g cap HV.out) (F := b.set) ((C2.out.mono (dm_sub b)).setCell _ _ (.inl HGB.out)) (fun _ h => h)⟩
    · rw [if_pos hre]
      have hb : (re == 0) = false := by simpa using hre
      have hb2 : (re != 0) = true := by simpa using hre
      clear hm hre
      generalize S.hole = m at *
      clear HLT HFT hft
      go_enter Tryz.func28, Tryz.ntmps28
      go_wp2_with (first
        | (go_at_call 86; refine HW.out.mono ?_; rintro e w' ⟨rfl, rfl⟩)
        | (go_at_call 87; refine HIX.out.mono ?_; rintro e w' ⟨rfl, rfl⟩)
        | (go_at_call 88; refine HFR.out.mono ?_; rintro e w2 ⟨rfl, h2, hc2⟩; have H2 := Lib.hid h2; have C2 := Lib.hid hc2; clear h2 hc2))
      go_ret2
      exact ⟨rfl, StoreTo.same HH.out H2.out C2.out (dm_sub b)⟩

end Go.Proofs.YtjbpdgknhbnfgaaGreat

namespace Go.Proofs.YtjbpdgknhbnfgaaGreat
open Go.RowKit
set_option maxRecDepth 100000

theorem Store.put_ok {S : Store} (h : S.Ok) (id kind : Int) (p : Bytes) (hp : (S.put id kind p).2.d.pages = S.d.pages) : (S.put id kind p).2.Ok :=
  ⟨h.ep, h.tl, by show S.m.length = _; rw [hp]; exact h.ml, by rw [hp]; exact h.hi, h.lo⟩

theorem new_tv {w2 w3 : World} {b : StoreB} {rS : Store} {ad ad' : Option Addr} {m c c' : Nat} {rp : Int} (_ : Blk w3 b.s 115 (storeCells b rS))
    (ho : Own w3 3 1 (.slice ad' (m + 1) c') (m + 1) (ints rS.table ++ [intV rp])) {ob : Obj}
    (hg : ∀ k ∈ ownBlk (.slice ad' (m + 1) c'), k ∈ ownBlk (.slice ad m c) ∨ (w2.alloc ob).heap.size ≤ k) (h2 : StoreAt w2 b rS) (htv : b.tv = .slice ad m c) :
    ∃ g, ad' = some ⟨g, 0, none⟩ ∧ ¬ (g = b.s) ∧ (∃ u, w3.cell? ⟨g, m, none⟩ = some u) ∧ w3.frozen? ⟨g, m, none⟩ = false := by
  obtain ⟨g, cap, cur, hv, hob, hB, -, -, hcl, hct⟩ := ho.pos (by omega)
  have hm : m < cur.length := by
    have := congrArg List.length hct
    have h1 := ho.1
    simp at this h1
    omega
  simp at hv
  obtain ⟨rfl, rfl⟩ := hv
  refine ⟨g, rfl, fun e => ?_, ⟨cur[m], ?_⟩, hB.free m⟩
  · subst e
    rcases hg b.s (by rw [hob]; simp) with h | h
    · rw [← htv] at h
      exact (StoreB.apart h2.nodup).s_t h
    · have := h2.st.lt
      simp at h
      omega
  · rw [hB.cell, List.getElem?_eq_getElem hm]

set_option maxHeartbeats 1000000 in
theorem store_new_tail {w : World} {b : StoreB} {S : Store} (h : StoreAt w b S) (hok : S.Ok) (hbr : S.broken = false) (pl : Bytes) (hm : S.hole = S.table.length) (hlp : pl.length ≤ 60000) :
    Calls Tryz.prog 28 #[ptrV b.s, strV pl] w fun e w' => e = .returned (.tuple #[intV (S.new pl).1, intV (S.new pl).2.1]) ∧ StoreTo b w w' (S.new pl).2.2 := by
  have hw := store_works h
  unfold Store.works at hw
  rw [if_neg (by simp [hbr])] at hw
  obtain ⟨-, -, k2, -, -⟩ := h.cells
  have htl := hok.tl
  have hix := slices_index h.t (-1) (by omega)
  have hi : idxOf S.table (-1) = -1 := by
    unfold idxOf
    exact if_neg (by unfold Store.hole at hm; omega)
  rw [hi] at hix
  have hft := Store.fresh_table S pl
  have hfresh := fun (hl : pl.length ≤ 232) => store_fresh h hok pl hl
  obtain ⟨ad, c, htv, hnc, hcm⟩ := h.t.shape
  have h2c : w.cell? ⟨b.s, 2, none⟩ = some (.slice ad S.table.length c) := by rw [k2, htv]
  unfold Store.new
  rw [if_neg (by simp [hbr]), hm]
  by_cases hl : 232 < pl.length
  · rw [if_pos hl]
    have hl2 : (232 : Int) < (pl.length : Int) := by omega
    have HH := Lib.hid h
    have HW := Lib.hid hw
    rw [htv] at hix
    have HIX := Lib.hid hix
    clear hw hix hfresh hft hi hok h hbr hl k2 htv hm
    generalize S.table.length = m at *
    go_enter Tryz.func28, Tryz.ntmps28
    go_wp2_with (first
      | (go_at_call 86; refine HW.out.mono ?_; rintro e w' ⟨rfl, rfl⟩)
      | (go_at_call 87; refine HIX.out.mono ?_; rintro e w' ⟨rfl, rfl⟩))
    go_ret2
    exact ⟨rfl, StoreTo.same HH.out HH.out (Chg.refl [] _) (by simp)⟩
  · rw [if_neg hl]
    by_cases h512 : 512 ≤ S.table.length
    · rw [if_pos h512]
      have hl2 : (pl.length : Int) ≤ 232 := by omega
      have hm2 : (512 : Int) ≤ (S.table.length : Int) := by omega
      have HH := Lib.hid h
      have HW := Lib.hid hw
      rw [htv] at hix
      have HIX := Lib.hid hix
      clear hw hix hfresh hft hi hok h hbr hl k2 htv hm h512 htl
      generalize S.table.length = m at *
      go_enter Tryz.func28, Tryz.ntmps28
      go_wp2_with (first
        | (go_at_call 86; refine HW.out.mono ?_; rintro e w' ⟨rfl, rfl⟩)
        | (go_at_call 87; refine HIX.out.mono ?_; rintro e w' ⟨rfl, rfl⟩))
      go_ret2
      exact ⟨rfl, StoreTo.same HH.out HH.out (Chg.refl [] _) (by simp)⟩
    · rw [if_neg h512]
      have hfr := hfresh (by omega)
      generalize S.fresh pl = r at *
      obtain ⟨rp, re, rS⟩ := r
      dsimp only at hfr hft ⊢
      have hl2 : (pl.length : Int) ≤ 232 := by omega
      have hm2 : (S.table.length : Int) < 512 := by omega
      have HH := Lib.hid h
      have HW := Lib.hid hw
      rw [htv] at hix
      have HIX := Lib.hid hix
      have HFR := Lib.hid hfr
      clear hw hix hfresh hi hok h hbr hl hfr k2 hm h512
      by_cases hre : re = 0
      · subst hre
        rw [if_neg (by simp), if_pos rfl]
        have hown := fun (w2 : World) (h2 : StoreAt w2 b rS) => (show Own w2 3 1 (.slice ad rS.table.length c) rS.table.length (ints rS.table) by
          have := h2.t
          rw [htv, ← hft] at this
          exact this)
        have hj2 := fun (w2 : World) (h2 : StoreAt w2 b rS) => (show w2.cell? ⟨b.s, 2, none⟩ = some (.slice ad rS.table.length c) by
          rw [h2.cells.2.2.1, htv, hft])
        rw [← hft] at h2c hm2 htl hnc HIX htv ⊢
        have HO := Lib.hid hown
        have HJ := Lib.hid hj2
        have HTV := Lib.hid htv
        clear hft hown hj2 htv
        obtain ⟨m, hm⟩ : ∃ m, m = rS.table.length := ⟨_, rfl⟩
        rw [← hm] at h2c hm2 htl hnc HIX HO HJ HTV ⊢
        have HM := Lib.hid hm
        clear hm
        go_enter Tryz.func28, Tryz.ntmps28
        go_wp2_with (first
          | (go_at_call 86; refine HW.out.mono ?_; rintro e w' ⟨rfl, rfl⟩)
          | (go_at_call 87; refine HIX.out.mono ?_; rintro e w' ⟨rfl, rfl⟩)
          | (go_at_call 88; refine HFR.out.mono ?_; rintro e w2 ⟨rfl, h2, hc2⟩; have j2 := HJ.out _ h2; have O2 := Lib.hid (HO.out _ h2); have H2 := Lib.hid h2; have C2 := Lib.hid hc2; clear h2 hc2)
          | (refine wpList_append rfl (.tmp 54) (.tmp 56) 52 52 rfl 3 1 8 (intV 0) Tryz.underlying52 info_int rfl (by omega) (.slice ad m c) m 1 _ _ rfl (O2.out.alloc _) (src_one Tryz.underlying52 w2 (intV rp) rfl 3) (by omega) (by unfold maxLen; omega) ?_; intro ad' c' w3 hown3 hc3 hge3 hcm3 hkc3; have HS3 : Hid (Blk w3 b.s 115 (storeCells b rS)) := Lib.hid ((H2.out.st.alloc _).kept hc3 (by rw [← HTV.out]; exact (StoreB.apart H2.out.nodup).s_t)); have f3 := HS3.out.free 2; have c3 : w3.cell? ⟨b.s, 2, none⟩ = some b.tv := HS3.out.cell 2; obtain ⟨g, hg, hgs, ⟨u, hgc⟩, hgf⟩ := new_tv HS3.out hown3 hge3 H2.out HTV.out; subst hg; have HO3 := Lib.hid hown3; have HC3 := Lib.hid hc3; have HG3 := Lib.hid hge3; clear hown3 hc3 hge3))
        go_ret2
        have e : ints (rS.table ++ [rp]) = ints rS.table ++ [intV rp] := by simp [ints]
        obtain ⟨h5, g5⟩ := StoreTo.grown (S := S) (S' := rS) (T := rS.table ++ [rp]) (F := b.d.set ++ b.m.set) (w0 := w2.alloc (.cells #[intV rp] 3)) HH.out (C2.out.alloc _) (dm_sub b) (H2.out.kept (F := []) ((Chg.refl _ _).alloc _) (by simp)) (tv := .slice (some ⟨g, 0, none⟩) (m + 1) c') (w' := w3) (by rw [e, List.length_append, ← HM.out]; exact HO3.out) (by rw [HTV.out]; exact HC3.out) (by rw [HTV.out]; exact HG3.out)
        have hlen : m < (rS.table ++ [rp]).length := by rw [List.length_append, ← HM.out]; simp
        have h6 := h5.setT (g := g) (cap := c') (by rw [List.length_append, ← HM.out]; rfl) m hlen rp
        have et : (rS.table ++ [rp]).set m rp = rS.table ++ [rp] := by
          rw [HM.out]
          simp
        rw [show ({ rS with table := rS.table ++ [rp] } : Store).table.set m rp = rS.table ++ [rp] from et] at h6
        refine ⟨rfl, StoreTo.trans (b1 := { b with tv := .slice (some ⟨g, 0, none⟩) (m + 1) c' }) rfl g5 (StoreTo.same h5 h6 (F := [g]) ((Chg.refl _ _).setCell _ _ (.inl (by simp))) ?_)⟩
        intro k hk
        simp at hk
        subst hk
        obtain ⟨cc, rfl⟩ : ∃ cc, c' = cc + 1 := ⟨c' - 1, by omega⟩
        simp [StoreB.set, ownBlk]
      · rw [if_pos hre]
        have hb : (re == 0) = false := by simpa using hre
        have hb2 : (re != 0) = true := by simpa using hre
        clear hre htv hft
        generalize S.table.length = m at *
        go_enter Tryz.func28, Tryz.ntmps28
        go_wp2_with (first
          | (go_at_call 86; refine HW.out.mono ?_; rintro e w' ⟨rfl, rfl⟩)
          | (go_at_call 87; refine HIX.out.mono ?_; rintro e w' ⟨rfl, rfl⟩)
          | (go_at_call 88; refine HFR.out.mono ?_; rintro e w2 ⟨rfl, h2, hc2⟩; have H2 := Lib.hid h2; have C2 := Lib.hid hc2; clear h2 hc2))
        go_ret2
        exact ⟨rfl, StoreTo.same HH.out H2.out C2.out (dm_sub b)⟩

end Go.Proofs.YtjbpdgknhbnfgaaGreat

namespace Go.Proofs.YtjbpdgknhbnfgaaGreat
open Go.RowKit
set_option maxRecDepth 100000

theorem Store.at_zero {S : Store} {l : Int} (h : S.at_ l = 0) : S.broken = false ∧ ∃ i : Nat, l = i ∧ ∃ hi : i < S.table.length, 0 ≤ S.table[i] := by
  unfold Store.at_ at h
  split at h
  · omega
  · split at h
    · omega
    · rename_i h1 h2
      have h3 : S.broken = false := by simpa using h1
      obtain ⟨i, rfl⟩ : ∃ i : Nat, l = i := ⟨l.toNat, by omega⟩
      have hi : i < S.table.length := by omega
      rw [Store.tab_of hi] at h2
      exact ⟨h3, i, rfl, hi, by omega⟩

theorem store_drop {w : World} {b : StoreB} {S : Store} (h : StoreAt w b S) (hok : S.Ok) (l : Int) :
    Calls Tryz.prog 33 #[ptrV b.s, intV l] w fun e w' => e = .returned (intV (S.drop l).1) ∧ StoreTo b w w' (S.drop l).2 := by
  have hat := store_at h hok l
  unfold Store.drop
  by_cases h0 : S.at_ l = 0
  · rw [if_neg (by simp [h0])]
    obtain ⟨hbr, i, rfl, hi, hp⟩ := Store.at_zero h0
    rw [h0] at hat
    rw [Store.tab_of hi]
    obtain ⟨g, cap, hv, hcell, hfz, hnc, hcm⟩ := table_cell h i hi
    obtain ⟨k0, k1, k2, k5, k7⟩ := h.cells
    rw [hv] at k2
    have hlv := map_leave (w := w.drew) (h.drew.m) (S.table[i])
    have HH := Lib.hid h.drew
    have HH0 := Lib.hid h
    have hgb : g ∈ b.set := by
      obtain ⟨c, rfl⟩ : ∃ c, cap = c + 1 := ⟨cap - 1, by omega⟩
      simp [StoreB.set, hv, ownBlk]
    have hset := fun (w3 : World) (M : FMap) (h3 : StoreAt w3 b { S with m := M }) => h3.setT (g := g) (cap := cap) hv i hi (-1)
    have htc := fun (w3 : World) (M : FMap) (h3 : StoreAt w3 b { S with m := M }) => table_cell (S := { S with m := M }) h3 i hi
    dsimp only at hset htc
    generalize FMap.leave S.m S.table[i] = lv at *
    obtain ⟨lve, lvM⟩ := lv
    dsimp only at hlv ⊢
    have hk2 : ∀ (w3 : World), StoreAt w3 b { S with m := lvM } → w3.cell? ⟨b.s, 2, none⟩ = some (.slice (some ⟨g, 0, none⟩) S.table.length cap) := fun w3 h3 => by
      rw [h3.cells.2.2.1, hv]
    have htc2 : ∀ (w3 : World), StoreAt w3 b { S with m := lvM } → w3.cell? ⟨g, i, none⟩ = some (intV S.table[i]) ∧ w3.frozen? ⟨g, i, none⟩ = false := fun w3 h3 => by
      obtain ⟨g', cap', hv', hc', hf', -, -⟩ := htc w3 lvM h3
      rw [hv] at hv'
      simp at hv'
      obtain ⟨rfl, rfl⟩ := hv'
      exact ⟨hc', hf'⟩
    have HLV := Lib.hid hlv
    have HSET := Lib.hid hset
    have HK2 := Lib.hid hk2
    have HTC := Lib.hid htc2
    have HAT := Lib.hid hat
    have HGB := Lib.hid hgb
    have hil : (i : Int) < (S.table.length : Int) := by omega
    clear hlv hset htc htc2 hk2 hat h hok h0 hbr hgb hv k0 k5 k7 hp
    generalize S.table[i] = p at *
    clear hi
    generalize S.table.length = n at *
    go_enter Tryz.func33, Tryz.ntmps33
    go_wp2_with (go_at_call 89; refine HAT.out.mono ?_; rintro e w' ⟨rfl, rfl⟩)
    go_region_held3 (fun w' => w'.cell? ⟨b.s, 1, none⟩ = some (ptrV b.m.m) ∧ w'.cell? ⟨b.s, 2, none⟩ = some (.slice (some ⟨g, 0, none⟩) n cap) ∧ w'.cell? ⟨g, i, none⟩ = some (intV p))
      (first | exact ⟨k1, k2, hcell⟩ | exact ⟨j1, j2, j3⟩)
      (first
      | (go_at_call 101; refine HLV.out.mono ?_; rintro e w3 ⟨rfl, hm3, hc3⟩; have H3 := Lib.hid (HH.out.onM hm3 hc3); have j1 := H3.out.cells.2.1; have j2 := HK2.out _ H3.out; obtain ⟨j3, j4⟩ := HTC.out _ H3.out; have C3 := Lib.hid (((Chg.refl b.m.set w).drew).trans1 hc3); clear hm3 hc3))
    go_wp2_with fail
    go_ret
    exact ⟨rfl, StoreTo.same HH0.out (HSET.out _ _ H3.out) (F := b.set) ((C3.out.mono (m_sub b)).setCell _ _ (.inl HGB.out)) (fun _ h => h)⟩
  · rw [if_pos h0]
    have HH := Lib.hid h
    have hb : (S.at_ l == 0) = false := by simpa using h0
    have hb2 : (S.at_ l != 0) = true := by simpa using h0
    have HAT := Lib.hid hat
    clear hat h hok h0
    generalize S.at_ l = x at *
    go_enter Tryz.func33, Tryz.ntmps33
    go_wp2_with (go_at_call 89; refine HAT.out.mono ?_; rintro e w' ⟨rfl, rfl⟩)
    go_ret
    exact ⟨rfl, StoreTo.same HH.out HH.out (Chg.refl [] _) (by simp)⟩

end Go.Proofs.YtjbpdgknhbnfgaaGreat

namespace Go.Proofs.YtjbpdgknhbnfgaaGreat
open Go.RowKit
set_option maxRecDepth 100000

theorem held_alloc {w : World} {a : Addr} {u : Value} (h : w.cell? a = some u) (o : Obj) : (w.alloc o).cell? a = some u := by
  rw [World.cell?_alloc_some w a o (by rw [h]; rfl), h]
theorem held_sets {w : World} {b i n : Nat} {u : Value} (h : w.cell? ⟨b, i, none⟩ = some u) (hn : ¬ (n = b)) (v0 v1 v2 v3 : Value) :
    ((((w.setCell ⟨n, 0, none⟩ v0).setCell ⟨n, 1, none⟩ v1).setCell ⟨n, 2, none⟩ v2).setCell ⟨n, 3, none⟩ v3).cell? ⟨b, i, none⟩ = some u := by
  rw [World.cell?_setCell_far _ _ _ _ hn, World.cell?_setCell_far _ _ _ _ hn, World.cell?_setCell_far _ _ _ _ hn, World.cell?_setCell_far _ _ _ _ hn, h]

set_option maxHeartbeats 2000000 in
theorem store_read {w : World} {b : StoreB} {S : Store} (h : StoreAt w b S) (hok : S.Ok) (l : Int) :
    Calls Tryz.prog 29 #[ptrV b.s, intV l] w fun e w' => e = .returned (.tuple #[strV (S.read l).1, intV (S.read l).2]) ∧ Chg [] w w' := by
  have hat := store_at h hok l
  unfold Store.read
  by_cases h0 : S.at_ l = 0
  · rw [if_neg (by simp [h0])]
    obtain ⟨hbr, i, rfl, hi, hp⟩ := Store.at_zero h0
    rw [h0] at hat
    rw [Store.tab_of hi]
    obtain ⟨g, cap, hv, hcell, hfz, hnc, hcm⟩ := table_cell h i hi
    obtain ⟨k0, k1, k2, k5, k7⟩ := h.cells
    rw [hv] at k2
    have hhi := hok.hi S.table[i] (List.getElem_mem hi)
    obtain ⟨n, hn⟩ : ∃ n : Nat, S.table[i] = n := ⟨S.table[i].toNat, by omega⟩
    rw [hn] at hcell hhi ⊢
    have hnm : n < S.d.many := by have := (Disk.pages_le S.d).1; omega
    have hrd := fun (w3 : World) (h3 : DiskAt w3 b.d S.d) => page_read h3 n hnm
    generalize pageRead S.d n = r at *
    obtain ⟨rp, re⟩ := r
    obtain ⟨pi, pe, pk, pp⟩ := rp
    dsimp only [pageV] at hrd ⊢
    have hb1 := fun w => shadow_bad re w
    have HRD := Lib.hid hrd
    have HD1 : Hid (DiskAt w.drew b.d S.d) := Lib.hid (h.d.kept (F := []) ((Chg.refl _ _).drew) (by simp))
    have HD2 : Hid (DiskAt ((w.alloc (.cells #[intV 0, intV 0, intV 0, .string ⟨#[]⟩] 55)).drew) b.d S.d) := Lib.hid (h.d.kept (F := []) (((Chg.refl _ _).alloc _).drew) (by simp))
    have HAT := Lib.hid hat
    have HB := Lib.hid hb1
    have hgb : g ∈ b.set := by
      obtain ⟨c, rfl⟩ : ∃ c, cap = c + 1 := ⟨cap - 1, by omega⟩
      simp [StoreB.set, hv, ownBlk]
    have hkeep : ∀ w3, Chg [] w w3 → w3.cell? ⟨b.s, 0, none⟩ = some (ptrV b.d.d) ∧ w3.cell? ⟨b.s, 2, none⟩ = some (.slice (some ⟨g, 0, none⟩) S.table.length cap) ∧ w3.cell? ⟨g, i, none⟩ = some (intV n) ∧ ¬ (w3.heap.size = b.s) ∧ ¬ (w3.heap.size = g) := fun w3 hc => by
      have h3 := h.kept hc (by simp)
      obtain ⟨g', cap', hv', hc', -, -, -⟩ := table_cell h3 i hi
      rw [hv] at hv'
      simp at hv'
      obtain ⟨rfl, rfl⟩ := hv'
      obtain ⟨x0, x1, x2, x5, x7⟩ := h3.cells
      rw [hv] at x2
      rw [hn] at hc'
      have y1 := h3.lt b.s (by simp [StoreB.set])
      have y2 := h3.lt g hgb
      exact ⟨x0, x2, hc', by omega, by omega⟩
    obtain ⟨-, -, -, n1, n2⟩ := hkeep w (Chg.refl _ _)
    have HKEEP := Lib.hid hkeep
    have hil : (i : Int) < (S.table.length : Int) := by omega
    have hzero : Blk ((w.alloc (.cells #[intV 0, intV 0, intV 0, .string ⟨#[]⟩] 55)).drew) w.heap.size 55 [intV 0, intV 0, intV 0, .string ⟨#[]⟩] := Blk.new w _ _
    have HZ := Lib.hid hzero
    clear hrd hat h hok h0 hbr hv k1 k5 k7 hp hn hhi hnm hb1 hkeep hgb hzero
    clear hi
    generalize S.table.length = tn at *
    have KD : Hid (w.drew.cell? ⟨b.s, 0, none⟩ = some (ptrV b.d.d) ∧ w.drew.cell? ⟨b.s, 2, none⟩ = some (.slice (some ⟨g, 0, none⟩) tn cap) ∧ w.drew.cell? ⟨g, i, none⟩ = some (intV n)) := Lib.hid ⟨k0, k2, hcell⟩
    have KA : Hid ((w.alloc (.cells #[intV 0, intV 0, intV 0, .string ⟨#[]⟩] 55)).drew.cell? ⟨b.s, 0, none⟩ = some (ptrV b.d.d) ∧ (w.alloc (.cells #[intV 0, intV 0, intV 0, .string ⟨#[]⟩] 55)).drew.cell? ⟨b.s, 2, none⟩ = some (.slice (some ⟨g, 0, none⟩) tn cap) ∧ (w.alloc (.cells #[intV 0, intV 0, intV 0, .string ⟨#[]⟩] 55)).drew.cell? ⟨g, i, none⟩ = some (intV n)) := Lib.hid ⟨held_alloc k0 _, held_alloc k2 _, held_alloc hcell _⟩
    by_cases hre : re = 0
    · subst hre
      rw [if_neg (by simp)]
      go_enter Tryz.func29, Tryz.ntmps29
      go_wp2_with (go_at_call 89; refine HAT.out.mono ?_; rintro e w' ⟨rfl, rfl⟩)
      go_region_held3 (fun w' => w'.cell? ⟨b.s, 0, none⟩ = some (ptrV b.d.d) ∧ w'.cell? ⟨b.s, 2, none⟩ = some (.slice (some ⟨g, 0, none⟩) tn cap) ∧ w'.cell? ⟨g, i, none⟩ = some (intV n))
        (first | with_reducible exact KD.out | with_reducible exact KA.out | with_reducible exact ⟨k0, k2, hcell⟩ | with_reducible exact ⟨j1, j2, j3⟩ | with_reducible exact ⟨held_alloc k0 _, held_alloc k2 _, held_alloc hcell _⟩ | with_reducible exact ⟨held_alloc j1 _, held_alloc j2 _, held_alloc j3 _⟩ | with_reducible exact ⟨held_sets j1 n1 _ _ _ _, held_sets j2 n1 _ _ _ _, held_sets j3 n2 _ _ _ _⟩ | with_reducible exact ⟨held_sets (held_alloc j1 _) m1 _ _ _ _, held_sets (held_alloc j2 _) m1 _ _ _ _, held_sets (held_alloc j3 _) m2 _ _ _ _⟩)
        (first
        | (go_at_call 90; with_reducible refine (HRD.out w.drew HD1.out).mono ?_; rintro e w3 ⟨rfl, hc3⟩; have C3 := Lib.hid (((Chg.refl [] w).drew).trans1 hc3); obtain ⟨j1, j2, j3, m1, m2⟩ := HKEEP.out _ C3.out; have hz3 : Blk (w3.alloc (.cells #[intV 0, intV 0, intV 0, .string ⟨#[]⟩] 55)) w3.heap.size 55 [intV 0, intV 0, intV 0, .string ⟨#[]⟩] := Blk.new w3 _ _; obtain ⟨⟨q0, q1, q2, q3⟩, ⟨f0, f1, f2, f3⟩⟩ := hz3.four; clear hc3 hz3)
        | (go_at_call 90; with_reducible refine (HRD.out ((w.alloc (.cells #[intV 0, intV 0, intV 0, .string ⟨#[]⟩] 55)).drew) HD2.out).mono ?_; rintro e w3 ⟨rfl, hc3⟩; have C3 := Lib.hid ((((Chg.refl [] w).alloc _).drew).trans1 hc3); obtain ⟨j1, j2, j3, m1, m2⟩ := HKEEP.out _ C3.out; have hz3 := HZ.out.kept hc3 (by simp); obtain ⟨⟨q0, q1, q2, q3⟩, ⟨f0, f1, f2, f3⟩⟩ := hz3.four; clear hc3 hz3))
      all_goals go_wp2_with (go_at_call 91; refine (HB.out _).mono ?_; rintro e w' ⟨rfl, rfl⟩)
      all_goals go_ret2
      all_goals first
        | exact ⟨rfl, C3.out.alloc _⟩
        | exact ⟨rfl, (((C3.out.setCell _ _ (.inr (Nat.le_refl _))).setCell _ _ (.inr (Nat.le_refl _))).setCell _ _ (.inr (Nat.le_refl _))).setCell _ _ (.inr (Nat.le_refl _))⟩
    · rw [if_pos hre]
      have hb : (re == 0) = false := by simpa using hre
      have hb2 : (re != 0) = true := by simpa using hre
      clear hre
      go_enter Tryz.func29, Tryz.ntmps29
      go_wp2_with (go_at_call 89; refine HAT.out.mono ?_; rintro e w' ⟨rfl, rfl⟩)
      go_region_held3 (fun w' => w'.cell? ⟨b.s, 0, none⟩ = some (ptrV b.d.d) ∧ w'.cell? ⟨b.s, 2, none⟩ = some (.slice (some ⟨g, 0, none⟩) tn cap) ∧ w'.cell? ⟨g, i, none⟩ = some (intV n))
        (first | with_reducible exact KD.out | with_reducible exact KA.out | with_reducible exact ⟨k0, k2, hcell⟩ | with_reducible exact ⟨j1, j2, j3⟩ | with_reducible exact ⟨held_alloc k0 _, held_alloc k2 _, held_alloc hcell _⟩ | with_reducible exact ⟨held_alloc j1 _, held_alloc j2 _, held_alloc j3 _⟩ | with_reducible exact ⟨held_sets j1 n1 _ _ _ _, held_sets j2 n1 _ _ _ _, held_sets j3 n2 _ _ _ _⟩ | with_reducible exact ⟨held_sets (held_alloc j1 _) m1 _ _ _ _, held_sets (held_alloc j2 _) m1 _ _ _ _, held_sets (held_alloc j3 _) m2 _ _ _ _⟩)
        (first
        | (go_at_call 90; with_reducible refine (HRD.out w.drew HD1.out).mono ?_; rintro e w3 ⟨rfl, hc3⟩; have C3 := Lib.hid (((Chg.refl [] w).drew).trans1 hc3); obtain ⟨j1, j2, j3, m1, m2⟩ := HKEEP.out _ C3.out; have hz3 : Blk (w3.alloc (.cells #[intV 0, intV 0, intV 0, .string ⟨#[]⟩] 55)) w3.heap.size 55 [intV 0, intV 0, intV 0, .string ⟨#[]⟩] := Blk.new w3 _ _; obtain ⟨⟨q0, q1, q2, q3⟩, ⟨f0, f1, f2, f3⟩⟩ := hz3.four; clear hc3 hz3)
        | (go_at_call 90; with_reducible refine (HRD.out ((w.alloc (.cells #[intV 0, intV 0, intV 0, .string ⟨#[]⟩] 55)).drew) HD2.out).mono ?_; rintro e w3 ⟨rfl, hc3⟩; have C3 := Lib.hid ((((Chg.refl [] w).alloc _).drew).trans1 hc3); obtain ⟨j1, j2, j3, m1, m2⟩ := HKEEP.out _ C3.out; have hz3 := HZ.out.kept hc3 (by simp); obtain ⟨⟨q0, q1, q2, q3⟩, ⟨f0, f1, f2, f3⟩⟩ := hz3.four; clear hc3 hz3))
      all_goals go_wp2_with (go_at_call 91; refine (HB.out _).mono ?_; rintro e w' ⟨rfl, rfl⟩)
      all_goals go_ret2
      all_goals first
        | exact ⟨rfl, C3.out.alloc _⟩
        | exact ⟨rfl, (((C3.out.setCell _ _ (.inr (Nat.le_refl _))).setCell _ _ (.inr (Nat.le_refl _))).setCell _ _ (.inr (Nat.le_refl _))).setCell _ _ (.inr (Nat.le_refl _))⟩
  · rw [if_pos h0]
    have hb : (S.at_ l == 0) = false := by simpa using h0
    have hb2 : (S.at_ l != 0) = true := by simpa using h0
    have HAT := Lib.hid hat
    clear hat h hok h0
    generalize S.at_ l = x at *
    go_enter Tryz.func29, Tryz.ntmps29
    go_wp2_with (go_at_call 89; refine HAT.out.mono ?_; rintro e w' ⟨rfl, rfl⟩)
    go_ret2
    exact ⟨rfl, Chg.refl _ _⟩

end Go.Proofs.YtjbpdgknhbnfgaaGreat
