/- A part of the walks of the program's functions, each a contract that its caller uses; no condition but what each theorem names. What the walk of shadow's Commit holds on to; its plain part; Commit of a broken store. Regions that draw their order and load cells that their last stores write: a load may be taken first where the late operations wait for it. -/
import Derived.Test.YtjbpdgknhbnfgaaGreatM9
import Derived.OrdersHeld

namespace Go.Proofs.YtjbpdgknhbnfgaaGreat
open Go.RowKit
set_option maxRecDepth 100000

theorem trimT_eq (t : List Int) (j : Nat) (_ : j ≤ t.length) (h1 : ∀ i (hi : i < t.length), j ≤ i → t[i] < 0) (h2 : j = 0 ∨ ∃ h : j - 1 < t.length, 0 ≤ t[j - 1]) : trimT t = t.take j := by
  obtain ⟨a1, a2, a3, a4⟩ := trimP_take (fun x : Int => decide (x < 0)) (-1) _ t rfl
  have hg : ∀ i (hi : i < t.length), t.getD i (-1) = t[i] := fun i hi => by simp [List.getD, hi]
  have e : (trimT t).length = j := by
    have hm : (trimT t).length = (trimP (fun x : Int => decide (x < 0)) t).length := rfl
    generalize (trimP (fun x : Int => decide (x < 0)) t).length = m at *
    rw [hm]
    apply Classical.byContradiction
    intro hne
    by_cases hlt : j < m
    · rcases a4 with a4 | a4
      · omega
      · have hi : m - 1 < t.length := by omega
        rw [hg _ hi] at a4
        have := h1 (m - 1) hi (by omega)
        simp at a4
        omega
    · rcases h2 with h2 | ⟨hh, h2⟩
      · omega
      · have := a3 (j - 1) (by omega) hh
        rw [hg _ hh] at this
        simp at this
        omega
  have := a1
  show trimP _ t = _
  rw [this]
  show t.take (trimT t).length = _
  rw [e]

theorem StoreAt.cutT {w : World} {b : StoreB} {S : Store} (h : StoreAt w b S) {ta : Option Addr} {n tc : Nat} (hv : b.tv = .slice ta n tc) (j : Nat) (hj : j ≤ S.table.length) :
    StoreAt (w.setCell ⟨b.s, 2, none⟩ (.slice ta j tc)) { b with tv := .slice ta j tc } { S with table := S.table.take j } := by
  have hn : n = S.table.length := by
    obtain ⟨a, c, h1, -⟩ := h.t.shape
    rw [hv] at h1
    simp at h1
    exact h1.2.1
  subst hn
  have ht := h.t
  rw [hv] at ht
  have := ht.cut j hj
  rw [Nat.mul_one] at this
  refine h.onT (T := S.table.take j) ?_ (Chg.refl _ _) (fun k hk => .inl ?_)
  · rw [List.length_take, Nat.min_eq_left hj]
    simpa [ints, List.map_take] using this
  · rw [hv]
    cases ta with
    | none => simp [ownBlk] at hk
    | some g =>
      cases tc with
      | zero => simp [ownBlk] at hk
      | succ n => simpa [ownBlk] using hk

theorem store_commit_broken {w : World} {b : StoreB} {S : Store} (h : StoreAt w b S) (hbr : S.broken = true) :
    Calls Tryz.prog 34 #[ptrV b.s] w fun e w' => e = .returned (intV 13) ∧ w = w' := by
  have hw := store_works h
  unfold Store.works at hw
  rw [if_pos hbr] at hw
  have HW := Lib.hid hw
  clear hw h hbr
  go_enter Tryz.func34, Tryz.ntmps34
  go_wp2_with (go_at_call 86; (with_reducible refine HW.out.mono ?_); rintro e w' ⟨rfl, rfl⟩)
  go_ret
  exact ⟨rfl, rfl⟩

theorem takes_snoc : ∀ (k : Nat) (m : List Int), takes (k + 1) m = ((takes k m).1 ++ [((FMap.first (takes k m).2 : Nat) : Int)], List.set (takes k m).2 (FMap.first (takes k m).2) 2)
  | 0, m => rfl
  | k + 1, m => by
    have ih := takes_snoc k (List.set m (FMap.first m) 2)
    rw [takes, ih]
    rfl
theorem take_next {k : Nat} {m : List Int} (h : k + 1 ≤ List.countP (fun x => x == 0) m) : FMap.take (takes k m).2 = (((FMap.first (takes k m).2 : Nat) : Int), 0, List.set (takes k m).2 (FMap.first (takes k m).2) 2) := by
  have h1 := takes_ok (k + 1) m h
  have h0 := takes_ok k m (by omega)
  rw [takes_snoc] at h1
  obtain ⟨n, e, hn, -⟩ := h1.was ((FMap.first (takes k m).2 : Nat) : Int) (by simp)
  have hn2 : FMap.first (takes k m).2 = n := by omega
  exact FMap.take_yes (by rw [h0.len, hn2]; exact hn)

/-- the state while Commit takes pages for the parts -/
structure TakeSt (w1 wr : World) (b1 : StoreB) (S1 : Store) (k : Nat) (pv : Value) : Prop where
  st : StoreAt wr b1 { S1 with m := (takes k S1.m).2 }
  own : Own wr 3 1 pv k (ints (takes k S1.m).1)
  new : ∀ x ∈ ownBlk pv, w1.heap.size ≤ x
  chg : Chg b1.set w1 wr
theorem TakeSt.next {w1 wr w3 w4 : World} {b1 : StoreB} {S1 : Store} {k : Nat} {pv pv' : Value} {M2 : FMap} {fp : Int} {o : Obj} (h : TakeSt w1 wr b1 S1 k pv) (h3 : StoreAt w3 b1 { S1 with m := M2 }) (c3 : Chg b1.m.set wr w3) (hc : Chg (ownBlk pv) (w3.alloc o) w4)
    (hown : Own w4 3 1 pv' (k + 1) (ints (takes k S1.m).1 ++ [intV fp])) (hge : ∀ x ∈ ownBlk pv', x ∈ ownBlk pv ∨ (w3.alloc o).heap.size ≤ x) (hT : takes (k + 1) S1.m = ((takes k S1.m).1 ++ [fp], M2)) (hs : ∀ x ∈ b1.set, x < w1.heap.size) : TakeSt w1 w4 b1 S1 (k + 1) pv' := by
  have hca : Chg [] w3 (w3.alloc o) := (Chg.refl _ _).alloc _
  refine ⟨?_, ?_, fun x hx => ?_, ?_⟩
  · rw [hT]
    exact (h3.kept hca (by simp)).kept hc (fun x hx hm => by have := hs x hx; have := h.new x hm; omega)
  · rw [hT]
    simpa [ints] using hown
  · rcases hge x hx with h1 | h1
    · exact h.new x h1
    · exact Nat.le_trans (Nat.le_trans h.chg.size c3.size) (Nat.le_trans hca.size h1)
  · exact ((h.chg.trans1 (c3.mono (m_sub b1))).trans0 hca).trans hc (fun x hx => .inr (h.new x hx))

/-- the state while the old parts leave -/
structure LeaveSt (w1 wr : World) (b1 : StoreB) (S2 : Store) (m' : FMap) (pv : Value) (ids : List Int) : Prop where
  st : StoreAt wr b1 { S2 with m := m' }
  own : Own wr 3 1 pv ids.length (ints ids)
  chg : Chg b1.set w1 wr
theorem LeaveSt.on0 {w1 wr w2 : World} {b1 : StoreB} {S2 : Store} {m' : FMap} {pv : Value} {ids : List Int} (h : LeaveSt w1 wr b1 S2 m' pv ids) (hc : Chg [] wr w2) : LeaveSt w1 w2 b1 S2 m' pv ids :=
  ⟨h.st.kept hc (by simp), h.own.kept hc (by simp), h.chg.trans0 hc⟩
theorem LeaveSt.onM {w1 wr w2 : World} {b1 : StoreB} {S2 : Store} {m' m'' : FMap} {pv : Value} {ids : List Int} (h : LeaveSt w1 wr b1 S2 m' pv ids) (hm : MapAt w2 b1.m m'') (hc : Chg b1.m.set wr w2) (hpn : ∀ k ∈ ownBlk pv, k ∉ b1.set) : LeaveSt w1 w2 b1 S2 m'' pv ids :=
  ⟨h.st.onM hm hc, h.own.kept hc (fun k hk hm => hpn k hk (m_sub b1 _ hm)), h.chg.trans1 (hc.mono (m_sub b1))⟩

/-- the fields that Commit sets at its end -/
theorem StoreAt.commitFields {w : World} {b : StoreB} {S : Store} (h : StoreAt w b S) {ov pv : Value} {T ids : List Int} (ho : Own w 3 1 ov T.length (ints T)) (hp : Own w 3 1 pv ids.length (ints ids))
    (h1 : ∀ k ∈ ownBlk ov, k ∉ b.set) (h2 : ∀ k ∈ ownBlk pv, k ∉ b.set) (h3 : ∀ k ∈ ownBlk ov, k ∉ ownBlk pv) (ep sl : Int) :
    StoreAt ((((w.setCell ⟨b.s, 3, none⟩ ov).setCell ⟨b.s, 4, none⟩ pv).setCell ⟨b.s, 5, none⟩ (intV ep)).setCell ⟨b.s, 6, none⟩ (intV sl)) { b with ov := ov, pv := pv } { S with old := T, parts := ids, epoch := ep, slot := sl } := by
  have a := StoreB.apart h.nodup
  have hm : ∀ k, (k = b.s ∨ k ∈ b.d.set ∨ k ∈ b.m.set ∨ k ∈ ownBlk b.tv ∨ k ∈ ownBlk b.ov ∨ k ∈ ownBlk b.pv) → k ∈ b.set := fun k hk => by simpa [StoreB.set] using hk
  have hc : Chg [b.s] w ((((w.setCell ⟨b.s, 3, none⟩ ov).setCell ⟨b.s, 4, none⟩ pv).setCell ⟨b.s, 5, none⟩ (intV ep)).setCell ⟨b.s, 6, none⟩ (intV sl)) :=
    ((((Chg.refl _ _).setCell _ _ (.inl (by simp))).setCell _ _ (.inl (by simp))).setCell _ _ (.inl (by simp))).setCell _ _ (.inl (by simp))
  have hap : StoreB.Apart { b with ov := ov, pv := pv } :=
    { a with
      so := fun hk => h1 _ hk (hm _ (by simp)), s_p := fun hk => h2 _ hk (hm _ (by simp)),
      d_o := fun k hk hk2 => h1 _ hk2 (hm _ (by simp [hk])), dp := fun k hk hk2 => h2 _ hk2 (hm _ (by simp [hk])),
      mo := fun k hk hk2 => h1 _ hk2 (hm _ (by simp [hk])), mp := fun k hk hk2 => h2 _ hk2 (hm _ (by simp [hk])),
      t_o := fun k hk hk2 => h1 _ hk2 (hm _ (by simp [show k ∈ ownBlk b.tv from hk])), t_p := fun k hk hk2 => h2 _ hk2 (hm _ (by simp [show k ∈ ownBlk b.tv from hk])),
      o_p := h3 }
  have hne : ∀ k, k ∈ b.set → k ≠ b.s → k ∉ [b.s] := fun k _ hk2 hk3 => hk2 (by simpa using hk3)
  refine ⟨h.d.kept hc fun k hk hk2 => ?_, h.m.kept hc fun k hk hk2 => ?_, h.t.kept hc fun k hk hk2 => ?_, ho.kept hc fun k hk hk2 => ?_, hp.kept hc fun k hk hk2 => ?_, ?_, hap.nodup h.d.nodup (by simpa [MapB.set] using h.m.ne)⟩
  · simp at hk2; subst hk2; exact a.sd hk
  · simp at hk2; subst hk2; exact a.sm hk
  · simp at hk2; subst hk2; exact a.s_t hk
  · simp at hk2; subst hk2; exact h1 _ hk (hm _ (by simp))
  · simp at hk2; subst hk2; exact h2 _ hk (hm _ (by simp))
  · exact (((h.st.set 3 ov).set 4 pv).set 5 (intV ep)).set 6 (intV sl)

/-- what Commit leaves -/
theorem commit_fin {w w1 w6 w7 : World} {b b1 : StoreB} {S2 : Store} {m' : FMap} {pv v7 : Value} {ids T : List Int} (ep sl : Int) (hset : b1.set = b.set) (hsd : b1.sd = b.sd) (hch : Chg b.set w w1) (h : LeaveSt w1 w6 b1 S2 m' pv ids)
    (hnew : ∀ x ∈ ownBlk pv, w.heap.size ≤ x) (hpn : ∀ x ∈ ownBlk pv, x ∉ b1.set) (h1 : Own w7 3 1 v7 T.length (ints T)) (h2 : Chg [] w6 w7) (h3 : ∀ k ∈ ownBlk v7, w6.heap.size ≤ k) :
    StoreTo b w ((((w7.setCell ⟨b.s, 3, none⟩ v7).setCell ⟨b.s, 4, none⟩ pv).setCell ⟨b.s, 5, none⟩ (intV ep)).setCell ⟨b.s, 6, none⟩ (intV sl)) { S2 with m := m', old := T, parts := ids, epoch := ep, slot := sl } := by
  have hs := StoreB.sd_s hsd
  have hlt := h.st.lt
  have hol := h.own.lt
  have h7 := h.st.kept h2 (by simp)
  have hbs : b1.s ∈ b.set := by rw [hs]; simp [StoreB.set]
  have hsz : w.heap.size ≤ w6.heap.size := Nat.le_trans hch.size h.chg.size
  have hf := h7.commitFields (ov := v7) (pv := pv) (T := T) (ids := ids) h1 (h.own.kept h2 (by simp)) (fun k hk hm => by have := h3 k hk; have := hlt k hm; omega) hpn (fun k hk hm => by have := h3 k hk; have := hol k hm; omega) ep sl
  have hc : Chg b.set w w6 := hch.trans1 (hset ▸ h.chg)
  rw [← hs]
  refine ⟨{ b1 with ov := v7, pv := pv }, hsd, hf, ⟨((((hc.trans0 h2).setCell _ _ (.inl hbs)).setCell _ _ (.inl hbs)).setCell _ _ (.inl hbs)).setCell _ _ (.inl hbs), hf.lt, fun k hk => ?_⟩⟩
  simp only [StoreB.set, List.mem_cons, List.mem_append] at hk
  have hin : ∀ k, (k = b1.s ∨ k ∈ b1.d.set ∨ k ∈ b1.m.set ∨ k ∈ ownBlk b1.tv ∨ k ∈ ownBlk b1.ov ∨ k ∈ ownBlk b1.pv) → k ∈ b.set := fun k hk => by
    rw [← hset]
    simpa [StoreB.set] using hk
  rcases hk with hk | hk | hk | hk | hk | hk
  · exact .inl (hin k (by simp [hk]))
  · exact .inl (hin k (by simp [hk]))
  · exact .inl (hin k (by simp [hk]))
  · exact .inl (hin k (by simp [hk]))
  · exact .inr (Nat.le_trans hsz (h3 k hk))
  · exact .inr (hnew k hk)

theorem cell2_keep {w : World} {b o : Nat} {u v : Value} (h : w.cell? ⟨b, 2, none⟩ = some u) (ho : o ≠ 2) : (w.setCell ⟨b, o, none⟩ v).cell? ⟨b, 2, none⟩ = some u := by
  rw [World.cell?_setCell_other _ _ _ _ (by simp <;> omega)]
  exact h

/-- the state while Commit trims the table -/
structure TrimSt (w wr : World) (b : StoreB) (S : Store) (ta : Option Addr) (tc k : Nat) : Prop where
  le : k ≤ S.table.length
  st : StoreAt wr { b with tv := .slice ta k tc } { S with table := S.table.take k }
  chg : Chg b.set w wr
  neg : ∀ i (hi : i < S.table.length), k ≤ i → S.table[i] < 0
theorem TrimSt.on0 {w wr w2 : World} {b : StoreB} {S : Store} {ta : Option Addr} {tc k : Nat} (h : TrimSt w wr b S ta tc k) (hc : Chg [] wr w2) : TrimSt w w2 b S ta tc k :=
  ⟨h.le, h.st.kept hc (by simp), h.chg.trans0 hc, h.neg⟩
theorem TrimSt.cells {w wr : World} {b : StoreB} {S : Store} {ta : Option Addr} {tc k : Nat} (h : TrimSt w wr b S ta tc k) : wr.cell? ⟨b.s, 2, none⟩ = some (.slice ta k tc) ∧ wr.frozen? ⟨b.s, 2, none⟩ = false :=
  ⟨h.st.st.cell 2, h.st.st.free 2⟩
theorem TrimSt.step {w wr : World} {b : StoreB} {S : Store} {ta : Option Addr} {tc k : Nat} (h : TrimSt w wr b S ta tc (k + 1)) (hn : ∀ (hk : k < S.table.length), S.table[k] < 0) : TrimSt w (wr.setCell ⟨b.s, 2, none⟩ (.slice ta k tc)) b S ta tc k := by
  have hle := h.le
  have := h.st.cutT (ta := ta) (n := k + 1) (tc := tc) rfl k (by show k ≤ (S.table.take (k + 1)).length; rw [List.length_take]; omega)
  refine ⟨by omega, ?_, h.chg.setCell _ _ (.inl (by simp [StoreB.set])), fun i hi hki => ?_⟩
  · have e : (S.table.take (k + 1)).take k = S.table.take k := by rw [List.take_take, Nat.min_eq_left (by omega)]
    have e2 : ({ ({ S with table := S.table.take (k + 1) } : Store) with table := (S.table.take (k + 1)).take k } : Store) = { S with table := S.table.take k } := by rw [e]
    exact e2 ▸ this
  · by_cases e : i = k
    · subst e
      exact hn hi
    · exact h.neg i hi (by omega)

/-- the table is trimmed -/
def TrimEnd (w wr : World) (b : StoreB) (S : Store) (ta : Option Addr) (tc : Nat) : Prop := ∃ k, TrimSt w wr b S ta tc k ∧ trimT S.table = S.table.take k

theorem Store.layParts_keeps : ∀ (ids : List Int) (k : Nat) (S : Store), ∃ D', (S.layParts ids k).2 = { S with d := D' }
  | [], _, S => ⟨S.d, rfl⟩
  | id :: ids, k, S => by
    unfold Store.layParts
    split
    · exact ⟨_, rfl⟩
    · obtain ⟨D', h⟩ := Store.layParts_keeps ids (k + 1) (S.put id 1 (putPart S.table k).1).2
      exact ⟨D', by rw [h]; rfl⟩
theorem Store.lay_keeps (S : Store) (parts : List Int) : ∃ D', (S.lay parts).2 = { S with d := D' } := by
  obtain ⟨D1, h1⟩ := Store.layParts_keeps parts 0 S
  unfold Store.lay
  dsimp only
  split
  · exact ⟨_, h1⟩
  · rw [h1]
    dsimp only
    split
    · exact ⟨_, rfl⟩
    · split
      · exact ⟨_, rfl⟩
      · exact ⟨_, rfl⟩
theorem Store.laid_keeps (S : Store) : ∃ D', S.laid = (S.laid.1, { S.trimmed with m := S.taken.2, d := D' }) := by
  obtain ⟨D', h⟩ := Store.lay_keeps { S.trimmed with m := S.taken.2 } S.taken.1
  exact ⟨D', Prod.ext rfl h⟩

structure Plan (S : Store) (r : Ref) (D1 D2 D3 D4 : Disk) : Prop where
  e1 : Store.layParts { S.trimmed with m := S.taken.2 } S.taken.1 0 = (0, { S.trimmed with m := S.taken.2, d := D1 })
  e2 : D1.sync = (0, D2)
  e3 : D2.write (1 - S.slot) (rootPut ⟨S.epoch + 1, (trimT S.table).length, S.taken.1⟩).1 = (0, D3)
  e4 : D3.sync = (0, D4)
  laid : S.laid = (0, { S.trimmed with m := S.taken.2, d := D4 })
  right : Root.right ⟨S.epoch + 1, (trimT S.table).length, S.taken.1⟩ = true
  ids : ∀ p ∈ S.taken.1, ∃ n : Nat, p = n ∧ n < S.d.pages
  ok : Store.Ok { S.trimmed with m := S.taken.2 }
  many : S.taken.1.length = S.need.toNat
  two : 2 ≤ S.d.loose.length

theorem Store.Rel.plan {S : Store} {r : Ref} (h : S.Rel r) (hep : S.epoch ≤ 1099511627774) (hf : S.need ≤ ((FMap.list S.m 0).length : Int)) : ∃ D1 D2 D3 D4, Plan S r D1 D2 D3 D4 := by
  have hT := h.trimmed
  have hlen := h.trim_len
  have hneed : S.need = rootNeed (trimT S.table).length := rfl
  rw [list_len] at hf
  have htl : (trimT S.table).length ≤ 512 := hT.ok.tl
  obtain ⟨n0, n5⟩ := rootNeed_le (n := ((trimT S.table).length : Int)) (by omega) (by omega)
  have htk := takes_ok S.need.toNat S.m (by omega)
  have hids : ∀ p ∈ S.taken.1, ∃ n : Nat, p = n ∧ n < S.d.pages := fun p hp => by
    obtain ⟨n, h1, h2, -⟩ := htk.was p hp
    exact ⟨n, h1, by have := h.core.len; omega⟩
  have hpp := (Disk.pages_le S.d).2
  have hids2 : ∀ p ∈ S.taken.1, 0 ≤ p ∧ p ≤ 1023 := fun p hp => by
    obtain ⟨n, h1, h2⟩ := hids p hp
    omega
  have hmany : S.taken.1.length = S.need.toNat := htk.many
  have htm : ∀ x ∈ trimT S.table, -1 ≤ x ∧ x ≤ 1023 := fun x hx => by
    have h1 := hT.ok.lo x hx
    have h2 : x < S.d.pages := hT.ok.hi x hx
    omega
  have hpl : ∀ i, (putPart (trimT S.table) i).1.length ≤ 232 := fun i => by
    by_cases hi : 116 * i < (trimT S.table).length
    · exact (getPart_of _ i hi htm).2.1
    · unfold putPart
      rw [if_pos]
      · simp
      · unfold rootNeed
        split <;> omega
  have hokm : Store.Ok { S.trimmed with m := S.taken.2 } := ⟨h.ok.ep, htl, by show S.taken.2.length = S.d.pages; rw [show S.taken.2.length = S.m.length from htk.len]; exact h.ok.ml, hT.ok.hi, hT.ok.lo⟩
  obtain ⟨D1, e1, L1⟩ := layParts_ok S.taken.1 0 { S.trimmed with m := S.taken.2 } h.up hokm htk.nodup hids hpl
  obtain ⟨D2, e2, u2, l2, w2⟩ := Disk.sync_up L1.up
  obtain ⟨sl, hsle, hsl2⟩ : ∃ sl : Nat, (1 - S.slot) = sl ∧ sl < 2 := by
    rcases h.rt.sl with e | e
    · exact ⟨1, by omega, by omega⟩
    · exact ⟨0, by omega, by omega⟩
  have hpos := h.pos
  have hmn : 1 ≤ S.d.many := by have := (Disk.pages_le S.d).1; omega
  have hll := Disk.many_le S.d (n := 0) (by omega)
  have hl1 : D1.loose.length = S.d.loose.length := L1.loose
  have hl2 : D2.loose.length = S.d.loose.length := l2.trans hl1
  have hrlen : ((⟨S.epoch + 1, (trimT S.table).length, S.taken.1⟩ : Root).parts.length : Int) = rootNeed ((trimT S.table).length : Int) := by
    show (S.taken.1.length : Int) = _
    rw [hmany, hneed]
    omega
  have hright : Root.right ⟨S.epoch + 1, (trimT S.table).length, S.taken.1⟩ = true :=
    Root.right_of ⟨by show 1 ≤ S.epoch + 1; have := h.ep1; omega, by show S.epoch + 1 ≤ _; omega⟩ ⟨by show (0 : Int) ≤ ((trimT S.table).length : Int); omega, by show ((trimT S.table).length : Int) ≤ 512; omega⟩ hrlen hids2 htk.nodup
  obtain ⟨D3, e3, u3, l3, w3⟩ := Disk.write_up u2 sl (by omega) (Root.bytes ⟨S.epoch + 1, (trimT S.table).length, S.taken.1⟩)
  obtain ⟨D4, e4, u4, l4, w4⟩ := Disk.sync_up u3
  have hrput : (rootPut ⟨S.epoch + 1, (trimT S.table).length, S.taken.1⟩).1 = Root.bytes ⟨S.epoch + 1, (trimT S.table).length, S.taken.1⟩ := by
    unfold rootPut
    rw [hright]
    rfl
  have e3' : D2.write (1 - S.slot) (rootPut ⟨S.epoch + 1, (trimT S.table).length, S.taken.1⟩).1 = (0, D3) := by
    rw [hrput, hsle]
    exact e3
  have hlaid : S.laid = (0, { S.trimmed with m := S.taken.2, d := D4 }) := Store.lay_eq (S := { S.trimmed with m := S.taken.2 }) e1 e2 e3' e4
  exact ⟨D1, D2, D3, D4, e1, e2, e3', e4, hlaid, hright, hids, hokm, hmany, by omega⟩

end Go.Proofs.YtjbpdgknhbnfgaaGreat

namespace Go.Proofs.YtjbpdgknhbnfgaaGreat
open Go.RowKit

section
variable {P : Program} {ops : Array Oper} {Q : Exit → Act → World → Prop} {md : Region.Mode} {S : World → Prop} {late : Nat → Bool}

/-- Whatever order is drawn; an operation that is not late keeps S. -/
def wpAnyL (P : Program) (md : Region.Mode) (ops : Array Oper) (Q : Exit → Act → World → Prop) (S : World → Prop) (late : Nat → Bool) : Nat → Array Bool → Act → World → Prop
  | 0, listed, a, w => Region.ready md ops listed = [] ∧ Q .normal a w
  | fuel + 1, listed, a, w => (Region.ready md ops listed = [] → Q .normal a w) ∧
    ∀ i ∈ Region.ready md ops listed, wpOp P ops Q i (fun a' w' => (late i = false → S w → S w') ∧ wpAnyL P md ops Q S late fuel (listed.setIfInBounds i true) a' w') a w

theorem wpAny_of_late : ∀ (fuel : Nat) (listed : Array Bool) (a : Act) (w : World), wpAnyL P md ops Q S late fuel listed a w → wpAny P md ops Q fuel listed a w
  | 0, _, _, _, h => h
  | fuel + 1, _, _, _, h => ⟨h.1, fun i hi => wpOp_mono (fun a' w' h' => wpAny_of_late fuel _ a' w' h'.2) (h.2 i hi)⟩

theorem wp_region_late {id : Nat} {a : Act} {w : World} (S : World → Prop) (late : Nat → Bool) (hm : P.follows .mixedOrders = true) (n : Nat) (hn : ops.size = n)
    (h : wpAnyL P .any ops Q S late n (Array.replicate n false) a w.drew) : (Code.region id ops true).wp P Q a w := by
  subst hn
  exact wp_region_any hm (wpAny_of_late _ _ _ _ h)

theorem wpAnyL_first {T : World → Prop} {i : Nat} {oi : Oper} {v : Value} (hi : ops[i]? = some oi) (hsel : ∀ (j : Nat) (o : Oper) cs b, ops[j]? = some o → o.op ≠ .select cs b)
    (hQ : ∀ c a w, Q (.panic c) (a.put oi.dst v) w → Q (.panic c) a w)
    (hT : ∀ j oj, ops[j]? = some oj → (∀ e ∈ oj.after, Region.binds md e = true → e.on ≠ i) → ∀ w w', T w → (late j = false → S w → S w') → T w') :
    ∀ (fuel : Nat) (listed : Array Bool) (a : Act) (w : World),
      (∀ j oj, ops[j]? = some oj → j ≠ i → listed.getD j true = false → (∀ e ∈ oj.after, Region.binds md e = true → e.on ≠ i) → oi.apart ops oj = true) →
      i ∈ Region.ready md ops listed → YieldsIf P ops T oi v a → T w →
      wpAnyL P md ops Q S late fuel (listed.setIfInBounds i true) (a.put oi.dst v) w → wpAnyL P md ops Q S late (fuel + 1) listed a w := by
  intro fuel
  induction fuel with
  | zero =>
    intro listed a w _ hr hy hTw H
    constructor
    · intro h
      rw [h] at hr
      cases hr
    · intro j hj
      by_cases hji : j = i
      · subst hji
        exact hy.wpOp hi hTw ⟨fun _ h => h, H⟩
      · have h2 := ready_mono hj hji
        rw [H.1] at h2
        cases h2
  | succ fuel ih =>
    intro listed a w hfree hr hy hTw H
    constructor
    · intro h
      rw [h] at hr
      cases hr
    · intro j hj
      by_cases hji : j = i
      · subst hji
        exact hy.wpOp hi hTw ⟨fun _ h => h, H⟩
      · have h1 := H.2 j (ready_mono hj hji)
        obtain ⟨hun, oj, hoj, hall⟩ := mem_ready.1 hj
        have hin := (mem_ready.1 hr).1
        have hnot : ∀ e ∈ oj.after, Region.binds md e = true → e.on ≠ i := by
          intro e he hb heq
          have h3 := hall e he hb
          rw [heq] at h3
          by_cases hs : i < listed.size
          · simp [hs] at h3 hin
            rw [hin] at h3
            cases h3
          · simp [Array.getElem?_eq_none (Nat.le_of_not_lt hs)] at h3
        have h2 := wpOp_putIf hoj (hfree j oj hoj hji hun hnot) (fun cs b => hsel i oi cs b hi) (fun cs b => hsel j oj cs b hoj) hQ hy h1
        refine wpOp_mono (fun a' w' h3 => ⟨h3.2.1, ih (listed.setIfInBounds j true) a' w' ?_ (ready_mono hr (Ne.symm hji)) h3.1 (hT j oj hoj hnot w w' hTw h3.2.1) ?_⟩) h2
        · intro k ok hk hki hkun hkno
          refine hfree k ok hk hki ?_ hkno
          by_cases hjk : j = k
          · subst hjk; exact hun
          · rw [getD_set_ne true hjk] at hkun; exact hkun
        · rw [Array.setIfInBounds_comm _ _ hji]
          exact h3.2.2

/-- Each late operation waits for i. -/
def lateWaits (md : Region.Mode) (ops : Array Oper) (late : Nat → Bool) (i : Nat) : Bool :=
  (List.range ops.size).all fun j => !late j || match ops[j]? with
    | some o => o.after.any (fun e => Region.binds md e && e.on == i)
    | none => true
theorem lateWaits_spec {i : Nat} (h : lateWaits md ops late i = true) (j : Nat) (oj : Oper) (hj : ops[j]? = some oj) (hno : ∀ e ∈ oj.after, Region.binds md e = true → e.on ≠ i) : late j = false := by
  simp only [lateWaits, List.all_eq_true, List.mem_range] at h
  have h1 := h j (Array.getElem?_eq_some_iff.1 hj).1
  simp only [hj, Bool.or_eq_true, Bool.not_eq_true'] at h1
  rcases h1 with h1 | h1
  · exact h1
  · obtain ⟨e, he, hb⟩ := Array.any_eq_true'.1 h1
    simp only [Bool.and_eq_true, beq_iff_eq] at hb
    exact absurd hb.2 (hno e he hb.1)

/-- What yields in whatever world is taken first. -/
theorem wpAnyL_pure {fuel : Nat} {listed : Array Bool} {T : Array Value} {ds : List Deferred} {w : World} (i d : Nat) {oi : Oper} {v : Value} (hi : ops[i]? = some oi) (hd : oi.dst = some d)
    (hs : Region.noSelect ops = true) (hf : Region.free md ops listed i = true) (hr : (Region.ready md ops listed).contains i = true) (hw : Region.wanted oi (yielded ops T) = true)
    (hQ : ∀ c a w, Q (.panic c) (a.put (some d) v) w → Q (.panic c) a w) (hy : ∀ w, (execOp (Act.eval ⟨T, ds⟩) oi).run P w = .ok (.value v) w)
    (h : wpAnyL P md ops Q S late fuel (listed.setIfInBounds i true) ⟨T.setIfInBounds d v, ds⟩ w) : wpAnyL P md ops Q S late (fuel + 1) listed ⟨T, ds⟩ w :=
  wpAnyL_first (T := fun _ => True) hi (Region.noSelect_spec hs) (by rw [hd]; exact hQ) (fun _ _ _ _ _ _ _ _ => trivial) fuel listed _ w (Region.free_spec hi hf) (by simpa using hr) (.inl ⟨hw, fun w _ => hy w⟩) trivial (by rw [hd]; exact h)
/-- What yields in whatever world that meets S is taken first, where the late ones wait for it. -/
theorem wpAnyL_load {fuel : Nat} {listed : Array Bool} {T : Array Value} {ds : List Deferred} {w : World} (i d : Nat) {oi : Oper} {v : Value} (hi : ops[i]? = some oi) (hd : oi.dst = some d)
    (hs : Region.noSelect ops = true) (hf : Region.free md ops listed i = true) (hr : (Region.ready md ops listed).contains i = true) (hl : lateWaits md ops late i = true) (hw : Region.wanted oi (yielded ops T) = true)
    (hQ : ∀ c a w, Q (.panic c) (a.put (some d) v) w → Q (.panic c) a w) (hS : S w) (hy : ∀ w, S w → (execOp (Act.eval ⟨T, ds⟩) oi).run P w = .ok (.value v) w)
    (h : wpAnyL P md ops Q S late fuel (listed.setIfInBounds i true) ⟨T.setIfInBounds d v, ds⟩ w) : wpAnyL P md ops Q S late (fuel + 1) listed ⟨T, ds⟩ w :=
  wpAnyL_first (T := S) hi (Region.noSelect_spec hs) (by rw [hd]; exact hQ) (fun j oj hj hno _ _ hSw hk => hk (lateWaits_spec hl j oj hj hno) hSw) fuel listed _ w (Region.free_spec hi hf) (by simpa using hr) (.inl ⟨hw, hy⟩) hS (by rw [hd]; exact h)
/-- One alone may come up. -/
theorem wpAnyL_one {fuel : Nat} {listed : Array Bool} {a : Act} {w : World} (i : Nat) (hr : Region.ready md ops listed = [i])
    (h : wpOp P ops Q i (fun a' w' => (late i = false → S w → S w') ∧ wpAnyL P md ops Q S late fuel (listed.setIfInBounds i true) a' w') a w) : wpAnyL P md ops Q S late (fuel + 1) listed a w := by
  refine ⟨fun h0 => absurd (hr ▸ h0) (by simp), fun j hj => ?_⟩
  rw [hr] at hj
  obtain rfl : j = i := by simpa using hj
  exact h
theorem wpAnyL_done {listed : Array Bool} {a : Act} {w : World} (hr : Region.ready md ops listed = []) (h : Q .normal a w) : wpAnyL P md ops Q S late 0 listed a w := ⟨hr, h⟩
theorem wpAnyL_call {fuel : Nat} {listed : Array Bool} {T : Array Value} {ds : List Deferred} {w : World} (i d : Nat) {oi : Oper} (hi : ops[i]? = some oi) (hd : oi.dst = some d) (hr : Region.ready md ops listed = [i]) (hw : Region.wanted oi (yielded ops T) = true)
    {f : FuncId} {args : Array Value} (hrun : (execOp (Act.eval ⟨T, ds⟩) oi).run P w = .ok (.enter f args) w) (R : Value → World → Prop)
    (hc : Calls P f args w fun e w' => ∃ v, e = .returned v ∧ R v w') (h : ∀ v w', R v w' → (late i = false → S w → S w') ∧ wpAnyL P md ops Q S late fuel (listed.setIfInBounds i true) ⟨T.setIfInBounds d v, ds⟩ w') :
    wpAnyL P md ops Q S late (fuel + 1) listed ⟨T, ds⟩ w := by
  refine wpAnyL_one i hr ?_
  unfold wpOp
  simp only [hi, hw, if_true]
  left
  unfold Oper.wp
  rw [hrun, Oper.upon_enter, hd]
  refine hc.mono fun e w'' hh => ?_
  obtain ⟨v, rfl, hv⟩ := hh
  exact h v w'' hv
theorem wpAnyL_store {fuel : Nat} {listed : Array Bool} {T : Array Value} {ds : List Deferred} {w w' : World} (i : Nat) {oi : Oper} (hi : ops[i]? = some oi) (hd : oi.dst = none) (hr : Region.ready md ops listed = [i]) (hw : Region.wanted oi (yielded ops T) = true)
    (hl : late i = true) (hrun : (execOp (Act.eval ⟨T, ds⟩) oi).run P w = .ok .skip w') (h : wpAnyL P md ops Q S late fuel (listed.setIfInBounds i true) ⟨T, ds⟩ w') :
    wpAnyL P md ops Q S late (fuel + 1) listed ⟨T, ds⟩ w := by
  refine wpAnyL_one i hr ?_
  unfold wpOp
  simp only [hi, hw, if_true]
  left
  unfold Oper.wp
  rw [hrun]
  refine ⟨fun h0 => (by rw [hl] at h0; cases h0), ?_⟩
  rw [hd]
  exact h
end

end Go.Proofs.YtjbpdgknhbnfgaaGreat
