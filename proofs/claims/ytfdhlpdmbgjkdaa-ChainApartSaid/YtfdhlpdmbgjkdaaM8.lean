/- A part of the walks of the program's functions, each a contract that its caller uses; no condition but what each theorem names. Plain Lean: a store that was never committed, as a list of logical pages. Plain Lean: a pool at rest over a store that was never committed. Plain Lean: chains of pages. The walks of the pool's with (of Get's closure) and Get, over a pool at rest. The walks of the pool's Drop and New (of a page), over a pool at rest. -/
import Derived.Test.YtfdhlpdmbgjkdaaM7
import Derived.Deep.DrawnRows

namespace Go.Proofs.Ytfdhlpdmbgjkdaa

theorem findIdx_of_map2 {α β : Type} (p : α → Bool) (q : β → Bool) : ∀ (L : List α) (M : List β), L.map p = M.map q → L.findIdx p = M.findIdx q
  | [], [], _ => rfl
  | [], _ :: _, h => by simp at h
  | _ :: _, [], h => by simp at h
  | f :: L, g :: M, h => by
    simp only [List.map_cons, List.cons.injEq] at h
    have ih := findIdx_of_map2 p q L M h.2
    simp only [List.findIdx_cons, h.1, ih]

/-- What a table's entry t says: no page, or a physical page of the payload b, written since the last commit. -/
def Store.Has (S : Store) (t : Int) : Option Bytes → Prop
  | none => t = -1
  | some b => ∃ n : Nat, t = n ∧ n < S.d.pages ∧ S.m[n]? = some 2 ∧ b.length = 232 ∧ ∃ ep, pageGet (S.d.area n) = (⟨n, ep, 2, b⟩, 0)

structure Store.View (S : Store) (A : List (Option Bytes)) (f : Nat) : Prop where
  ok : S.Ok
  up : S.d.Up
  br : S.broken = false
  len : A.length = S.table.length
  cell : ∀ (i : Nat) x, A[i]? = some x → ∃ t, S.table[i]? = some t ∧ S.Has t x
  inj : ∀ (i j : Nat) t, S.table[i]? = some t → S.table[j]? = some t → 0 ≤ t → i = j
  free : List.countP (fun k => k == 0) S.m = f

theorem Store.View.cell' {S : Store} {A : List (Option Bytes)} {f : Nat} (h : S.View A f) {i : Nat} {t : Int} (ht : S.table[i]? = some t) : ∃ x, A[i]? = some x ∧ S.Has t x := by
  have hi : i < A.length := by rw [h.len]; exact (List.getElem?_eq_some_iff.1 ht).1
  obtain ⟨t', h1, h2⟩ := h.cell i _ (List.getElem?_eq_getElem hi)
  rw [ht] at h1
  obtain rfl : t = t' := by simpa using h1
  exact ⟨_, List.getElem?_eq_getElem hi, h2⟩

theorem Store.Has.none_iff {S : Store} {t : Int} {x : Option Bytes} (h : S.Has t x) : (t == -1) = x.isNone := by
  cases x with
  | none => have h1 : t = -1 := h; simp [h1]
  | some b =>
    obtain ⟨n, rfl, -⟩ := h
    have h1 : ¬ ((n : Int) = -1) := by omega
    simp

theorem Store.View.hole {S : Store} {A : List (Option Bytes)} {f : Nat} (h : S.View A f) : S.hole = A.findIdx Option.isNone := by
  unfold Store.hole
  apply findIdx_of_map2
  apply List.ext_getElem?
  intro i
  rw [List.getElem?_map, List.getElem?_map]
  cases ha : A[i]? with
  | none =>
    have hi : S.table[i]? = none := by rw [List.getElem?_eq_none_iff] at ha ⊢; rw [← h.len]; exact ha
    rw [hi]
    rfl
  | some x =>
    obtain ⟨t, ht, hx⟩ := h.cell i x ha
    rw [ht]
    exact congrArg some hx.none_iff

theorem Store.View.tab {S : Store} {A : List (Option Bytes)} {f : Nat} (h : S.View A f) {i : Nat} {b : Bytes} (ha : A[i]? = some (some b)) :
    ∃ n : Nat, S.tab i = n ∧ S.table[i]? = some (n : Int) ∧ i < S.table.length ∧ n < S.d.pages ∧ S.m[n]? = some 2 ∧ b.length = 232 ∧ ∃ ep, pageGet (S.d.area n) = (⟨n, ep, 2, b⟩, 0) := by
  obtain ⟨t, ht, n, rfl, h1⟩ := h.cell i _ ha
  have hi := (List.getElem?_eq_some_iff.1 ht).1
  refine ⟨n, ?_, ht, hi, h1⟩
  rw [Store.tab_of hi]
  exact (List.getElem?_eq_some_iff.1 ht).2

theorem Store.View.at_yes {S : Store} {A : List (Option Bytes)} {f : Nat} (h : S.View A f) {i : Nat} {b : Bytes} (ha : A[i]? = some (some b)) : S.at_ i = 0 := by
  obtain ⟨n, h1, -, h2, -⟩ := h.tab ha
  unfold Store.at_
  rw [h.br, if_neg (by simp), if_neg (by rw [h1]; omega)]

/-- Is there such a page? -/
def lookup (A : List (Option Bytes)) (l : Int) : Option Bytes := if l < 0 then none else (A[l.toNat]?).getD none
theorem lookup_nat (A : List (Option Bytes)) (i : Nat) : lookup A i = (A[i]?).getD none := by
  unfold lookup
  rw [if_neg (by omega), Int.toNat_natCast]
theorem lookup_some {A : List (Option Bytes)} {l : Int} {b : Bytes} (h : lookup A l = some b) : ∃ i : Nat, l = i ∧ A[i]? = some (some b) := by
  unfold lookup at h
  split at h
  · cases h
  · refine ⟨l.toNat, by omega, ?_⟩
    cases hx : A[l.toNat]? with
    | none => rw [hx] at h; cases h
    | some x =>
      rw [hx] at h
      have : x = some b := h
      rw [this]
theorem lookup_of {A : List (Option Bytes)} {i : Nat} {b : Bytes} (h : A[i]? = some (some b)) : lookup A i = some b := by rw [lookup_nat, h]; rfl

theorem Store.View.at_no {S : Store} {A : List (Option Bytes)} {f : Nat} (h : S.View A f) {l : Int} (ha : lookup A l = none) : S.at_ l = 3 := by
  unfold Store.at_
  rw [h.br, if_neg (by simp)]
  split
  · rfl
  · rename_i hc
    obtain ⟨i, rfl⟩ : ∃ i : Nat, l = i := ⟨l.toNat, by omega⟩
    have hi : i < S.table.length := by omega
    obtain ⟨x, hx, hh⟩ := h.cell' (List.getElem?_eq_getElem hi)
    rw [lookup_nat, hx] at ha
    obtain rfl : x = none := ha
    have h1 : S.table[i] = -1 := hh
    rw [Store.tab_of hi, h1] at hc
    omega

theorem Store.View.read {S : Store} {A : List (Option Bytes)} {f : Nat} (h : S.View A f) (l : Int) :
    S.read l = match lookup A l with | some b => (b, 0) | none => ([], 3) := by
  cases hl : lookup A l with
  | none =>
    unfold Store.read
    rw [h.at_no hl]
    rfl
  | some b =>
    obtain ⟨i, rfl, ha⟩ := lookup_some hl
    obtain ⟨n, h1, h2, h3, h4, h5, h6, ep, h7⟩ := h.tab ha
    unfold Store.read
    rw [h.at_yes ha, if_neg (by simp), h1]
    have hp := (Disk.pages_le S.d).1
    rw [pageRead_up h.up n (by omega) _ h7 rfl]
    rfl

theorem Store.View.fresh_full {S : Store} {A : List (Option Bytes)} (h : S.View A 0) (p : Bytes) : S.fresh p = (0, 11, S) := by
  have hf : ¬ FMap.first S.m < S.m.length := by
    intro hlt
    have h0 := List.findIdx_getElem (w := hlt)
    have hc := List.countP_eq_zero.1 h.free S.m[FMap.first S.m] (List.getElem_mem hlt)
    exact hc h0
  unfold Store.fresh FMap.take
  rw [if_neg hf]
  rfl

theorem Store.View.fresh_ok {S : Store} {A : List (Option Bytes)} {f : Nat} (h : S.View A (f + 1)) (p : Bytes) (hl : p.length ≤ 232) :
    ∃ (n : Nat) (D' : Disk), S.fresh p = ((n : Int), 0, { S with m := List.set S.m n 2, d := D' }) ∧ n < S.d.pages ∧ S.m[n]? = some 0 ∧ D'.Up ∧ D'.loose.length = S.d.loose.length ∧
      pageGet (D'.area n) = (⟨n, S.epoch + 1, 2, pad p⟩, 0) ∧ ∀ m, m ≠ n → D'.area m = S.d.area m := by
  have hlt : FMap.first S.m < S.m.length := by
    apply List.findIdx_lt_length_of_exists
    apply Classical.byContradiction
    intro hn
    have : List.countP (fun k => k == 0) S.m = 0 := List.countP_eq_zero.2 fun a ha hb => hn ⟨a, ha, hb⟩
    have := h.free
    omega
  have h0 := List.findIdx_getElem (w := hlt)
  obtain ⟨n, hn⟩ : ∃ n, n = FMap.first S.m := ⟨_, rfl⟩
  have hz : S.m[FMap.first S.m] = 0 := eq_of_beq h0
  have hm0 : S.m[n]? = some 0 := by rw [hn, List.getElem?_eq_getElem hlt, hz]
  rw [← hn] at hlt
  have hml := h.ok.ml
  have hpl := Disk.pages_le S.d
  have hep := h.ok.ep
  have hr : Page.right ⟨n, S.epoch + 1, 2, p⟩ = true := by
    simp [Page.right]
    omega
  obtain ⟨D', e, hu, hll, ha, ho⟩ := pageWrite_up h.up n (by omega) (S.epoch + 1) 2 p hr hl
  refine ⟨n, D', ?_, by omega, hm0, hu, hll, ?_, ho⟩
  · unfold Store.fresh FMap.take
    rw [← hn, if_pos hlt]
    dsimp only
    rw [if_neg (by simp)]
    unfold Store.put
    dsimp only
    rw [e, if_neg (by simp)]
  · rw [ha]
    exact pageGet_bytes _ hr hl (by show (n : Int) ≤ _; omega)

theorem Store.pages_of_loose {D D' : Disk} (h : D'.loose.length = D.loose.length) : D'.pages = D.pages := by
  unfold Disk.pages Disk.many Disk.sectors
  rw [h]

theorem countP_set {m : List Int} {n : Nat} {a b : Int} (h : m[n]? = some a) : List.countP (fun k => k == 0) (List.set m n b) + (if a == 0 then 1 else 0) = List.countP (fun k => k == 0) m + (if b == 0 then 1 else 0) := by
  induction m generalizing n with
  | nil => simp at h
  | cons c m ih =>
    cases n with
    | zero =>
      obtain rfl : c = a := by simpa using h
      simp only [List.set_cons_zero, List.countP_cons]
      omega
    | succ n =>
      have := ih (n := n) (by simpa using h)
      simp only [List.set_cons_succ, List.countP_cons]
      omega

def putAt {α : Type} (A : List α) (i : Nat) (x : α) : List α := if i = A.length then A ++ [x] else A.set i x
theorem putAt_get {α : Type} (A : List α) (i : Nat) (x : α) (hi : i ≤ A.length) (j : Nat) : (putAt A i x)[j]? = if j = i then some x else A[j]? := by
  unfold putAt
  split
  · rename_i h
    subst h
    split
    · rename_i h
      subst h
      simp
    · by_cases h2 : j < A.length
      · rw [List.getElem?_append_left h2]
      · rw [List.getElem?_eq_none (by simp; omega), List.getElem?_eq_none (by omega)]
  · rw [List.getElem?_set]
    split
    · rename_i h
      subst h
      rw [if_pos rfl, if_pos (by omega)]
    · rw [if_neg (by omega)]
theorem putAt_length {α : Type} (A : List α) (i : Nat) (x : α) (hi : i ≤ A.length) : (putAt A i x).length = max A.length (i + 1) := by
  unfold putAt
  split
  · simp; omega
  · simp; omega

theorem Store.View.new_ok {S : Store} {A : List (Option Bytes)} {f : Nat} (h : S.View A (f + 1)) (p : Bytes) (hl : p.length ≤ 232) (hh : A.findIdx Option.isNone < 512) :
    ∃ S', S.new p = (((A.findIdx Option.isNone : Nat) : Int), 0, S') ∧ S'.View (putAt A (A.findIdx Option.isNone) (some (pad p))) f := by
  obtain ⟨n, D', e, hn, hm0, hu, hll, hg, ho⟩ := h.fresh_ok p hl
  have hhole := h.hole
  obtain ⟨k, hk⟩ : ∃ k, k = A.findIdx Option.isNone := ⟨_, rfl⟩
  rw [← hk] at hhole hh ⊢
  have hkl : k ≤ A.length := by rw [hk]; exact List.findIdx_le_length
  have hlen := h.len
  have htab : (if S.hole = S.table.length then S.table ++ [(n : Int)] else S.table.set S.hole n) = putAt S.table k n := by
    unfold putAt
    rw [hhole]
  refine ⟨{ S with m := List.set S.m n 2, d := D', table := putAt S.table k n }, ?_, ?_⟩
  · unfold Store.new
    rw [if_neg (by rw [h.br]; simp), if_neg (by omega), hhole, if_neg (by omega), e]
    dsimp only
    rw [if_neg (by simp)]
    rw [hhole] at htab
    rw [htab]
  · have hpg := Store.pages_of_loose hll
    have hgetT : ∀ j, (putAt S.table k (n : Int))[j]? = if j = k then some (n : Int) else S.table[j]? := fun j => putAt_get _ _ _ (by omega) j
    have hmem : ∀ t ∈ putAt S.table k (n : Int), t = n ∨ t ∈ S.table := fun t ht => by
      obtain ⟨j, hj⟩ := List.mem_iff_getElem?.1 ht
      rw [hgetT] at hj
      split at hj
      · left; simpa using hj.symm
      · right; exact List.mem_of_getElem? hj
    have hnew : ∀ (j : Nat) (t : Int), S.table[j]? = some t → t ≠ n := fun j t ht e => by
      subst e
      obtain ⟨x, -, hx⟩ := h.cell' ht
      cases x with
      | none => have h1 : (n : Int) = -1 := hx; omega
      | some b =>
        obtain ⟨n', e1, -, h2, -⟩ := hx
        obtain rfl : n = n' := by omega
        rw [hm0] at h2
        simp at h2
    refine ⟨⟨h.ok.ep, ?_, ?_, fun t ht => ?_, fun t ht => ?_⟩, hu, h.br, ?_, fun i x hx => ?_, fun i j t hi hj ht => ?_, ?_⟩
    · show (putAt S.table k (n : Int)).length ≤ 512
      rw [putAt_length _ _ _ (by omega)]
      have := h.ok.tl
      omega
    · show (List.set S.m n 2).length = _
      rw [List.length_set, hpg]
      exact h.ok.ml
    · show t < D'.pages
      rw [hpg]
      rcases hmem t ht with rfl | h1
      · omega
      · exact h.ok.hi t h1
    · rcases hmem t ht with rfl | h1
      · omega
      · exact h.ok.lo t h1
    · show _ = (putAt S.table k (n : Int)).length
      rw [putAt_length _ _ _ hkl, putAt_length _ _ _ (by omega), hlen]
    · rw [putAt_get _ _ _ hkl] at hx
      show ∃ t, (putAt S.table k (n : Int))[i]? = some t ∧ _
      rw [hgetT]
      by_cases hik : i = k
      · rw [if_pos hik] at hx ⊢
        obtain rfl : some (pad p) = x := by simpa using hx
        refine ⟨n, rfl, n, rfl, ?_, ?_, pad_length _ hl, S.epoch + 1, hg⟩
        · show n < D'.pages
          rw [hpg]; exact hn
        · show (List.set S.m n 2)[n]? = some 2
          rw [List.getElem?_set, if_pos rfl, if_pos (List.getElem?_eq_some_iff.1 hm0).1]
      · rw [if_neg hik] at hx ⊢
        obtain ⟨t, ht, hs⟩ := h.cell i x hx
        refine ⟨t, ht, ?_⟩
        cases x with
        | none => exact hs
        | some b =>
          have hne := hnew i t ht
          obtain ⟨n', rfl, h1, h2, h3, ep, h4⟩ := hs
          have hnn : n' ≠ n := fun e => hne (by rw [e])
          refine ⟨n', rfl, ?_, ?_, h3, ep, ?_⟩
          · show n' < D'.pages
            rw [hpg]; exact h1
          · show (List.set S.m n 2)[n']? = some 2
            rw [List.getElem?_set, if_neg (by omega), h2]
          · show pageGet (D'.area n') = _
            rw [ho n' hnn, h4]
    · have hi' : (if i = k then some (n : Int) else S.table[i]?) = some t := by rw [← hgetT]; exact hi
      have hj' : (if j = k then some (n : Int) else S.table[j]?) = some t := by rw [← hgetT]; exact hj
      split at hi'
      · split at hj'
        · omega
        · obtain rfl : (n : Int) = t := by simpa using hi'
          exact absurd rfl (hnew _ _ hj')
      · split at hj'
        · obtain rfl : (n : Int) = t := by simpa using hj'
          exact absurd rfl (hnew _ _ hi')
        · exact h.inj i j t hi' hj' ht
    · have := countP_set (b := 2) hm0
      have hf := h.free
      have h2 : ((2 : Int) == 0) = false := rfl
      have h3 : ((0 : Int) == 0) = true := rfl
      rw [h2, h3] at this
      simp only [if_true] at this
      show List.countP (fun k => k == 0) (List.set S.m n 2) = f
      simp at this
      omega

theorem Store.View.new_big {S : Store} {A : List (Option Bytes)} {f : Nat} (h : S.View A f) (p : Bytes) (hl : 232 < p.length) : S.new p = (0, 4, S) := by
  unfold Store.new
  rw [h.br, if_neg (by simp), if_pos hl]
theorem Store.View.new_many {S : Store} {A : List (Option Bytes)} {f : Nat} (h : S.View A f) (p : Bytes) (hl : p.length ≤ 232) (hh : 512 ≤ A.findIdx Option.isNone) : S.new p = (0, 11, S) := by
  unfold Store.new
  rw [h.br, if_neg (by simp), if_neg (by omega), h.hole, if_pos hh]
theorem Store.View.new_full {S : Store} {A : List (Option Bytes)} (h : S.View A 0) (p : Bytes) (hl : p.length ≤ 232) : S.new p = (0, 11, S) := by
  unfold Store.new
  rw [h.br, if_neg (by simp), if_neg (by omega), h.fresh_full p]
  split
  · rfl
  · rfl

theorem Store.View.drop_ok {S : Store} {A : List (Option Bytes)} {f : Nat} (h : S.View A f) (i : Nat) {b : Bytes} (ha : A[i]? = some (some b)) :
    ∃ S', S.drop i = (0, S') ∧ S'.View (A.set i none) (f + 1) := by
  obtain ⟨n, h1, h2, h3, h4, h5, h6, ep, h7⟩ := h.tab ha
  have hml := h.ok.ml
  have hnl : n < S.m.length := by omega
  have hleave : FMap.leave S.m (n : Int) = (0, List.set S.m n 0) := by
    unfold FMap.leave
    rw [FMap.at_of hnl, if_neg (by simp), FMap.kind_of hnl, (List.getElem?_eq_some_iff.1 h5).2, if_pos rfl, Int.toNat_natCast]
  have hil : i < A.length := by rw [h.len]; exact h3
  refine ⟨{ S with m := List.set S.m n 0, table := S.table.set i (-1) }, ?_, ?_⟩
  · unfold Store.drop
    rw [h.at_yes ha, if_neg (by simp), h1, hleave, Int.toNat_natCast]
  · have hgetT : ∀ j, (S.table.set i (-1))[j]? = if j = i then some (-1) else S.table[j]? := fun j => by
      rw [List.getElem?_set]
      by_cases hj : i = j
      · rw [if_pos hj, if_pos h3, if_pos hj.symm]
      · rw [if_neg hj, if_neg (fun e => hj e.symm)]
    have hgetA : ∀ j, (A.set i none)[j]? = if j = i then some none else A[j]? := fun j => by
      rw [List.getElem?_set]
      by_cases hj : i = j
      · rw [if_pos hj, if_pos hil, if_pos hj.symm]
      · rw [if_neg hj, if_neg (fun e => hj e.symm)]
    have hmem : ∀ t ∈ S.table.set i (-1), t = -1 ∨ t ∈ S.table := fun t ht => by
      obtain ⟨j, hj⟩ := List.mem_iff_getElem?.1 ht
      rw [hgetT] at hj
      split at hj
      · left; simpa using hj.symm
      · right; exact List.mem_of_getElem? hj
    refine ⟨⟨h.ok.ep, ?_, ?_, fun t ht => ?_, fun t ht => ?_⟩, h.up, h.br, ?_, fun j x hx => ?_, fun j k t hj hk ht => ?_, ?_⟩
    · show (S.table.set i (-1)).length ≤ 512
      rw [List.length_set]; exact h.ok.tl
    · show (List.set S.m n 0).length = _
      rw [List.length_set]; exact hml
    · rcases hmem t ht with rfl | h8
      · show (-1 : Int) < (S.d.pages : Int)
        omega
      · exact h.ok.hi t h8
    · rcases hmem t ht with rfl | h8
      · omega
      · exact h.ok.lo t h8
    · show _ = (S.table.set i (-1)).length
      rw [List.length_set, List.length_set, h.len]
    · rw [hgetA] at hx
      show ∃ t, (S.table.set i (-1))[j]? = some t ∧ _
      rw [hgetT]
      by_cases hji : j = i
      · rw [if_pos hji] at hx ⊢
        obtain rfl : none = x := by simpa using hx
        exact ⟨-1, rfl, rfl⟩
      · rw [if_neg hji] at hx ⊢
        obtain ⟨t, ht, hs⟩ := h.cell j x hx
        refine ⟨t, ht, ?_⟩
        cases x with
        | none => exact hs
        | some c =>
          obtain ⟨n', rfl, g1, g2, g3⟩ := hs
          have hnn : n ≠ n' := fun e => by
            subst e
            exact hji (h.inj j i n ht h2 (by omega))
          refine ⟨n', rfl, g1, ?_, g3⟩
          show (List.set S.m n 0)[n']? = some 2
          rw [List.getElem?_set, if_neg hnn, g2]
    · have hj' : (if j = i then some (-1) else S.table[j]?) = some t := by rw [← hgetT]; exact hj
      have hk' : (if k = i then some (-1) else S.table[k]?) = some t := by rw [← hgetT]; exact hk
      split at hj'
      · have : -1 = t := by simpa using hj'
        omega
      · split at hk'
        · have : -1 = t := by simpa using hk'
          omega
        · exact h.inj j k t hj' hk' ht
    · have := countP_set (b := 0) h5
      have hf := h.free
      have e2 : ((2 : Int) == 0) = false := rfl
      have e3 : ((0 : Int) == 0) = true := rfl
      rw [e2, e3] at this
      show List.countP (fun k => k == 0) (List.set S.m n 0) = f + 1
      simp at this
      omega

theorem Store.View.drop_no {S : Store} {A : List (Option Bytes)} {f : Nat} (h : S.View A f) {l : Int} (ha : lookup A l = none) : S.drop l = (3, S) := by
  unfold Store.drop
  rw [h.at_no ha]
  rfl

end Go.Proofs.Ytfdhlpdmbgjkdaa

namespace Go.Proofs.Ytfdhlpdmbgjkdaa

structure Pool.View (Q : Pool) (A : List (Option Bytes)) (f : Nat) : Prop where
  st : Q.s.View A f
  hand : Q.hand < Q.l.length
  idle : ∀ fr ∈ Q.l, fr.held = 0 ∧ fr.dirty = false
  page : ∀ fr ∈ Q.l, fr.page < 0 ∨ lookup A fr.page = some fr.payload
  inj : ∀ (i j : Nat) (p : Int), (Q.l.map Frame.page)[i]? = some p → (Q.l.map Frame.page)[j]? = some p → 0 ≤ p → i = j

theorem Pool.View.clean {Q : Pool} {A : List (Option Bytes)} {f : Nat} (h : Q.View A f) : Q.Clean := fun fr hf => (h.idle fr hf).2
theorem Pool.View.heldOk {Q : Pool} {A : List (Option Bytes)} {f : Nat} (h : Q.View A f) : Q.Held := fun fr hf => by
  have := (h.idle fr hf).1
  omega

/-- The one frame that has page p. -/
theorem Pool.find_only {Q : Pool} {i : Nat} {p : Int} (hinj : ∀ (i j : Nat) (p : Int), (Q.l.map Frame.page)[i]? = some p → (Q.l.map Frame.page)[j]? = some p → 0 ≤ p → i = j)
    (h : (Q.l.map Frame.page)[i]? = some p) (h0 : 0 ≤ p) : Q.find p = i := by
  have hi : i < Q.l.length := by
    have := (List.getElem?_eq_some_iff.1 h).1
    simpa using this
  have hp : Q.l[i].page = p := by
    rw [List.getElem?_map, List.getElem?_eq_getElem hi] at h
    simpa using h
  have hlt : Q.l.findIdx (fun f => f.page == p) < Q.l.length := by
    apply List.findIdx_lt_length_of_exists
    exact ⟨Q.l[i], List.getElem_mem hi, by simpa using hp⟩
  have hw := List.findIdx_getElem (w := hlt)
  have hw' : Q.l[Q.l.findIdx (fun f => f.page == p)].page = p := by simpa using hw
  have he := hinj i _ p h (by rw [List.getElem?_map, List.getElem?_eq_getElem hlt]; simp [hw']) h0
  unfold Pool.find idxWhere
  rw [if_neg (by omega), if_pos hlt, ← he]

theorem Pool.View.find_hit {Q : Pool} {A : List (Option Bytes)} {f : Nat} (h : Q.View A f) {l : Int} (hf : 0 ≤ Q.find l) :
    ∃ (i : Nat) (hi : i < Q.l.length), Q.find l = i ∧ Q.l[i].page = l ∧ 0 ≤ l ∧ lookup A l = some Q.l[i].payload := by
  obtain ⟨i, h1, hi, h2⟩ := Pool.find_pos hf
  have hl : 0 ≤ l := by
    unfold Pool.find at hf
    split at hf
    · omega
    · omega
  refine ⟨i, hi, h1, h2, hl, ?_⟩
  rcases h.page _ (List.getElem_mem hi) with h3 | h3
  · omega
  · rw [h2] at h3
    exact h3

theorem map_set_same {α β : Type} (g : α → β) (L : List α) (i : Nat) (hi : i < L.length) (x : α) (hx : g x = g L[i]) : (L.set i x).map g = L.map g := by
  rw [List.map_set, hx]
  apply List.ext_getElem
  · simp
  · intro j h1 h2
    rw [List.getElem_set]
    split
    · rename_i e
      subst e
      simp
    · rfl

theorem Pool.View.touch {Q : Pool} {A : List (Option Bytes)} {f : Nat} (h : Q.View A f) (i : Nat) (hi : i < Q.l.length) (x : Frame) (hp : x.page = Q.l[i].page) (hb : x.payload = Q.l[i].payload) (h0 : x.held = 0) (hd : x.dirty = false) :
    Pool.View { Q with l := Q.l.set i x } A f := by
  refine ⟨h.st, by simpa using h.hand, fun fr hf => ?_, fun fr hf => ?_, ?_⟩
  · rcases List.mem_or_eq_of_mem_set hf with h1 | h1
    · exact h.idle fr h1
    · subst h1; exact ⟨h0, hd⟩
  · rcases List.mem_or_eq_of_mem_set hf with h1 | h1
    · exact h.page fr h1
    · subst h1
      rw [hp, hb]
      exact h.page _ (List.getElem_mem hi)
  · show ∀ (i' j : Nat) (p : Int), ((Q.l.set i x).map Frame.page)[i']? = some p → ((Q.l.set i x).map Frame.page)[j]? = some p → 0 ≤ p → i' = j
    rw [map_set_same Frame.page Q.l i hi x hp]
    exact h.inj

/-! the victim -/
theorem countP_used_set (L : List Frame) (i : Nat) (hi : i < L.length) (hu : L[i].used = true) (x : Frame) (hx : x.used = false) : List.countP Frame.used (L.set i x) + 1 = List.countP Frame.used L := by
  induction L generalizing i with
  | nil => simp at hi
  | cons f L ih =>
    cases i with
    | zero =>
      have hu' : f.used = true := hu
      simp [hu', hx]
    | succ i =>
      have := ih i (by simpa using hi) (by simpa using hu)
      simp only [List.set_cons_succ, List.countP_cons]
      omega

theorem Pool.round_found : ∀ (k : Nat) (Q : Pool), Q.hand < Q.l.length → (∀ fr ∈ Q.l, fr.held = 0) → List.countP Frame.used Q.l < k → 0 ≤ (Q.round k).1
  | 0, _, _, _, hk => absurd hk (by omega)
  | k + 1, Q, h, h0, hk => by
    unfold Pool.round
    have hn : Q.next.hand < Q.next.l.length := Nat.mod_lt _ (by show 0 < Q.l.length; omega)
    rw [Pool.getD_hand h]
    have hh := h0 _ (List.getElem_mem h)
    rw [if_neg (by omega)]
    split
    · rename_i hu
      have hc := countP_used_set Q.l Q.hand h hu { Q.l[Q.hand] with used := false } rfl
      refine Pool.round_found k { Q.next with l := Q.l.set Q.hand { Q.l[Q.hand] with used := false } } (by rw [List.length_set]; exact hn) (fun fr hf => ?_) ?_
      · rcases List.mem_or_eq_of_mem_set hf with h1 | h1
        · exact h0 fr h1
        · subst h1; exact hh
      · show List.countP Frame.used (Q.l.set Q.hand _) < k
        omega
    · show (0 : Int) ≤ (Q.hand : Int)
      omega

theorem Pool.round_hand : ∀ (k : Nat) (Q : Pool), Q.hand < Q.l.length → (Q.round k).2.hand < (Q.round k).2.l.length
  | 0, Q, h => h
  | k + 1, Q, h => by
    unfold Pool.round
    have hn : Q.next.hand < Q.next.l.length := Nat.mod_lt _ (by show 0 < Q.l.length; omega)
    split
    · exact Pool.round_hand k Q.next hn
    · split
      · exact Pool.round_hand k { Q.next with l := Q.l.set Q.hand { Q.l.getD Q.hand Frame.empty with used := false } } (by rw [List.length_set]; exact hn)
      · exact hn
theorem Pool.victim_hand (Q : Pool) (h : Q.hand < Q.l.length) : Q.victim.2.hand < Q.victim.2.l.length := by
  unfold Pool.victim
  split
  · exact h
  · split
    · exact h
    · exact Pool.round_hand _ Q h

theorem Pool.View.victim {Q : Pool} {A : List (Option Bytes)} {f : Nat} (h : Q.View A f) :
    ∃ (i : Nat) (V : Pool), Q.victim = ((i : Int), V) ∧ i < V.l.length ∧ V.View A f ∧ V.l.map Frame.page = Q.l.map Frame.page := by
  obtain ⟨k1, k2, k3, k4⟩ := Pool.victim_keeps Q h.hand h.clean
  obtain ⟨p1, p2, p3⟩ := Pool.victim_pages Q h.hand
  have hh := Pool.victim_hand Q h.hand
  have hpos : 0 ≤ Q.victim.1 := by
    unfold Pool.victim
    split
    · rename_i h0
      exact h0
    · split
      · rename_i h1
        exfalso
        have : Q.l.findIdx (fun f => f.held == 0) < Q.l.length := by
          apply List.findIdx_lt_length_of_exists
          exact ⟨Q.l[Q.hand]'h.hand, List.getElem_mem h.hand, by simpa using (h.idle _ (List.getElem_mem h.hand)).1⟩
        unfold idxWhere at h1
        rw [if_pos this] at h1
        omega
      · apply Pool.round_found _ _ h.hand (fun fr hf => (h.idle fr hf).1)
        have := List.countP_le_length (p := Frame.used) (l := Q.l)
        have := h.hand
        omega
  generalize Q.victim = vv at *
  obtain ⟨vi, V⟩ := vv
  dsimp only at *
  refine ⟨vi.toNat, V, ?_, by omega, ⟨by rw [k1]; exact h.st, hh, fun fr hf => ⟨?_, k3 fr hf⟩, fun fr hf => ?_, by rw [p1]; exact h.inj⟩, p1⟩
  · rw [Int.toNat_of_nonneg hpos]
  · have : fr.held ∈ V.l.map Frame.held := List.mem_map_of_mem hf
    rw [p2, List.mem_map] at this
    obtain ⟨g, hg, e⟩ := this
    rw [← e]
    exact (h.idle g hg).1
  · obtain ⟨j, hj⟩ := List.mem_iff_getElem?.1 hf
    have e1 : (V.l.map Frame.page)[j]? = some fr.page := by rw [List.getElem?_map, hj]; rfl
    have e3 : (V.l.map Frame.payload)[j]? = some fr.payload := by rw [List.getElem?_map, hj]; rfl
    rw [p1, List.getElem?_map] at e1
    rw [p3, List.getElem?_map] at e3
    cases hg : Q.l[j]? with
    | none => rw [hg] at e1; cases e1
    | some g =>
      rw [hg] at e1 e3
      have e1' : g.page = fr.page := by simpa using e1
      have e3' : g.payload = fr.payload := by simpa using e3
      rw [← e1', ← e3']
      exact h.page g (List.mem_of_getElem? hg)

theorem Pool.View.hold_no {Q : Pool} {A : List (Option Bytes)} {f : Nat} (h : Q.View A f) {l : Int} (ha : lookup A l = none) : Q.hold l = ([], 3, Q) := by
  unfold Pool.hold
  rw [if_neg]
  · unfold Pool.holdMiss
    rw [h.st.read l, ha]
    rfl
  · intro hf
    obtain ⟨i, hi, -, -, -, h4⟩ := h.find_hit hf
    rw [ha] at h4
    cases h4

def Pool.letOne (Q : Pool) (i : Nat) : Pool := { Q with l := Q.l.set i { Q.l.getD i Frame.empty with held := (Q.l.getD i Frame.empty).held - 1 } }

theorem Pool.View.hold_yes {Q : Pool} {A : List (Option Bytes)} {f : Nat} (h : Q.View A f) {l : Int} {b : Bytes} (ha : lookup A l = some b) :
    ∃ (Q1 : Pool) (i : Nat) (hi : i < Q1.l.length), Q.hold l = (b, 0, Q1) ∧ Q1.find l = i ∧ Q1.l[i].held = 1 ∧ (Q1.letOne i).View A f := by
  have hl0 : 0 ≤ l := by
    obtain ⟨i, rfl, -⟩ := lookup_some ha
    omega
  by_cases hf : 0 ≤ Q.find l
  · obtain ⟨i, hi, h1, h2, h3, h4⟩ := h.find_hit hf
    rw [ha] at h4
    have hb : Q.l[i].payload = b := by simpa using h4.symm
    have hg : Q.l.getD i Frame.empty = Q.l[i] := by simp [List.getD, hi]
    have hh := (h.idle _ (List.getElem_mem hi)).1
    refine ⟨{ Q with l := Q.l.set i { Q.l[i] with held := Q.l[i].held + 1, used := true } }, i, by simpa using hi, ?_, ?_, ?_, ?_⟩
    · unfold Pool.hold
      rw [if_pos hf, h1, Int.toNat_natCast, hg, hb]
    · rw [← h1]
      exact Pool.find_of_map (Q := { Q with l := Q.l.set i { Q.l[i] with held := Q.l[i].held + 1, used := true } }) (R := Q) (pages_set Q.l i hi { Q.l[i] with held := Q.l[i].held + 1, used := true } rfl) l
    · have e : (Q.l.set i { Q.l[i] with held := Q.l[i].held + 1, used := true })[i]'(by simpa using hi) = { Q.l[i] with held := Q.l[i].held + 1, used := true } := List.getElem_set_self _
      refine (congrArg Frame.held e).trans ?_
      show Q.l[i].held + 1 = 1
      omega
    · have e : (Q.l.set i { Q.l[i] with held := Q.l[i].held + 1, used := true }).getD i Frame.empty = { Q.l[i] with held := Q.l[i].held + 1, used := true } := by simp [List.getD, hi]
      unfold Pool.letOne
      dsimp only
      rw [e, List.set_set]
      exact h.touch i hi _ rfl rfl (by show Q.l[i].held + 1 - 1 = 0; omega) (h.idle _ (List.getElem_mem hi)).2
  · obtain ⟨i, V, hv, hi, hV, hp⟩ := h.victim
    have hfV : V.find l = Q.find l := Pool.find_of_map hp l
    have hnone : ∀ j, (V.l.map Frame.page)[j]? ≠ some l := fun j e => by
      have := Pool.find_only hV.inj e hl0
      omega
    obtain ⟨x, hx⟩ : ∃ x : Frame, x = ⟨l, b, 1, false, true⟩ := ⟨_, rfl⟩
    have hset : ∀ (y : Frame), y.page = l → ∀ j, ((V.l.set i y).map Frame.page)[j]? = if j = i then some l else (V.l.map Frame.page)[j]? := fun y hy j => by
      rw [List.map_set, hy, List.getElem?_set]
      by_cases hj : i = j
      · rw [if_pos hj, if_pos (by simpa using hi), if_pos hj.symm]
      · rw [if_neg hj, if_neg (fun e => hj e.symm)]
    have hinj : ∀ (y : Frame), y.page = l → ∀ (a c : Nat) (p : Int), ((V.l.set i y).map Frame.page)[a]? = some p → ((V.l.set i y).map Frame.page)[c]? = some p → 0 ≤ p → a = c := fun y hy a c p h1 h2 h3 => by
      rw [hset y hy] at h1 h2
      split at h1
      · split at h2
        · omega
        · obtain rfl : l = p := by simpa using h1
          exact absurd h2 (hnone c)
      · split at h2
        · obtain rfl : l = p := by simpa using h2
          exact absurd h1 (hnone a)
        · exact hV.inj a c p h1 h2 h3
    refine ⟨{ V with l := V.l.set i x }, i, by simpa using hi, ?_, ?_, ?_, ?_⟩
    · unfold Pool.hold
      rw [if_neg hf]
      unfold Pool.holdMiss
      rw [h.st.read l, ha, hv]
      dsimp only
      rw [if_neg (by simp), if_neg (by omega), Int.toNat_natCast, hx]
    · exact Pool.find_only (Q := { V with l := V.l.set i x }) (hinj x (by rw [hx])) (by show ((V.l.set i x).map Frame.page)[i]? = some l; rw [hset x (by rw [hx]), if_pos rfl]) hl0
    · have e : (V.l.set i x)[i]'(by simpa using hi) = x := List.getElem_set_self _
      refine (congrArg Frame.held e).trans ?_
      rw [hx]
    · have e : (V.l.set i x).getD i Frame.empty = x := by simp [List.getD, hi]
      unfold Pool.letOne
      dsimp only
      rw [e, List.set_set]
      refine ⟨hV.st, by simpa using hV.hand, fun fr hfr => ?_, fun fr hfr => ?_, hinj _ (by rw [hx])⟩
      · rcases List.mem_or_eq_of_mem_set hfr with h1 | h1
        · exact hV.idle fr h1
        · subst h1
          rw [hx]
          exact ⟨by show (1 : Int) - 1 = 0; omega, rfl⟩
      · rcases List.mem_or_eq_of_mem_set hfr with h1 | h1
        · exact hV.page fr h1
        · subst h1
          right
          rw [hx]
          exact ha

/-! New -/
theorem lookup_putAt {A : List (Option Bytes)} {b : Bytes} {p : Int} {c : Bytes} (h : lookup A p = some c) : lookup (putAt A (A.findIdx Option.isNone) (some b)) p = some c := by
  obtain ⟨i, rfl, hi⟩ := lookup_some h
  have hk : A.findIdx Option.isNone ≤ A.length := List.findIdx_le_length
  have hne : i ≠ A.findIdx Option.isNone := fun e => by
    have hlt := (List.getElem?_eq_some_iff.1 hi).1
    have hw := List.findIdx_getElem (w := (e ▸ hlt : A.findIdx Option.isNone < A.length))
    have h2 := (List.getElem?_eq_some_iff.1 hi).2
    subst e
    rw [h2] at hw
    cases hw
  rw [lookup_nat, putAt_get _ _ _ hk, if_neg hne, hi]
  rfl

theorem Pool.View.onNew {Q : Pool} {A : List (Option Bytes)} {f g : Nat} {S' : Store} {b : Bytes} (h : Q.View A f) (hs : S'.View (putAt A (A.findIdx Option.isNone) (some b)) g) :
    Pool.View { Q with s := S' } (putAt A (A.findIdx Option.isNone) (some b)) g :=
  ⟨hs, h.hand, h.idle, fun fr hf => (h.page fr hf).imp id fun e => lookup_putAt e, h.inj⟩

/-! Drop -/
def Pool.drop (Q : Pool) (l : Int) : Int × Pool :=
  if 0 ≤ Q.find l ∧ 0 < (Q.l.getD (Q.find l).toNat Frame.empty).held then (16, Q)
  else if (Q.s.drop l).1 ≠ 0 then ((Q.s.drop l).1, { Q with s := (Q.s.drop l).2 })
  else (0, { Q with s := (Q.s.drop l).2, l := if 0 ≤ Q.find l then Q.l.set (Q.find l).toNat Frame.empty else Q.l })

theorem Pool.View.free {Q : Pool} {A : List (Option Bytes)} {f : Nat} (h : Q.View A f) (l : Int) : ¬ (0 ≤ Q.find l ∧ 0 < (Q.l.getD (Q.find l).toNat Frame.empty).held) := by
  rintro ⟨h1, h2⟩
  obtain ⟨i, hi, e, -⟩ := h.find_hit h1
  have hg : Q.l.getD i Frame.empty = Q.l[i] := by simp [List.getD, hi]
  rw [e, Int.toNat_natCast, hg, (h.idle _ (List.getElem_mem hi)).1] at h2
  omega

theorem Pool.View.drop_no {Q : Pool} {A : List (Option Bytes)} {f : Nat} (h : Q.View A f) {l : Int} (ha : lookup A l = none) : Q.drop l = (3, Q) := by
  unfold Pool.drop
  rw [if_neg (h.free l), h.st.drop_no ha]
  rfl

theorem Pool.View.drop_yes {Q : Pool} {A : List (Option Bytes)} {f : Nat} (h : Q.View A f) {i : Nat} {b : Bytes} (ha : lookup A i = some b) :
    ∃ Q', Q.drop i = (0, Q') ∧ Q'.View (A.set i none) (f + 1) := by
  obtain ⟨i', e, hi⟩ := lookup_some ha
  obtain rfl : i = i' := by omega
  obtain ⟨S', hd, hs⟩ := h.st.drop_ok i hi
  have hil := (List.getElem?_eq_some_iff.1 hi).1
  refine ⟨_, by unfold Pool.drop; rw [if_neg (h.free _), hd, if_neg (by simp)], ?_⟩
  have hlook : ∀ (p : Int) (c : Bytes), lookup A p = some c → p ≠ i → lookup (A.set i none) p = some c := fun p c hp hne => by
    obtain ⟨j, rfl, hj⟩ := lookup_some hp
    rw [lookup_nat, List.getElem?_set, if_neg (by omega), hj]
    rfl
  by_cases hf : 0 ≤ Q.find i
  · rw [if_pos hf]
    obtain ⟨k, hk, e1, e2, -⟩ := h.find_hit hf
    rw [e1, Int.toNat_natCast]
    have hset : ∀ j, ((Q.l.set k Frame.empty).map Frame.page)[j]? = if j = k then some (-1) else (Q.l.map Frame.page)[j]? := fun j => by
      rw [List.map_set, List.getElem?_set]
      by_cases hj : k = j
      · rw [if_pos hj, if_pos (by simpa using hk), if_pos hj.symm]
        rfl
      · rw [if_neg hj, if_neg (fun e => hj e.symm)]
    refine ⟨hs, by simpa using h.hand, fun fr hfr => ?_, fun fr hfr => ?_, fun a c p h1 h2 h3 => ?_⟩
    · rcases List.mem_or_eq_of_mem_set hfr with h1 | h1
      · exact h.idle fr h1
      · subst h1; exact ⟨rfl, rfl⟩
    · obtain ⟨j, hj⟩ := List.mem_iff_getElem?.1 hfr
      have hj' : (Q.l.set k Frame.empty)[j]? = some fr := hj
      rw [List.getElem?_set] at hj'
      split at hj'
      · rename_i e
        left
        obtain rfl : Frame.empty = fr := by simpa using hj'
        show (-1 : Int) < 0
        omega
      · rename_i hkj
        rcases h.page fr (List.mem_of_getElem? hj') with h1 | h1
        · exact .inl h1
        · right
          apply hlook _ _ h1
          intro e3
          apply hkj
          apply h.inj k j i
          · rw [List.getElem?_map, List.getElem?_eq_getElem hk]; simp [e2]
          · rw [List.getElem?_map, hj']; simp [e3]
          · omega
    · have h1' : (if a = k then some (-1) else (Q.l.map Frame.page)[a]?) = some p := by rw [← hset]; exact h1
      have h2' : (if c = k then some (-1) else (Q.l.map Frame.page)[c]?) = some p := by rw [← hset]; exact h2
      split at h1'
      · have : -1 = p := by simpa using h1'
        omega
      · split at h2'
        · have : -1 = p := by simpa using h2'
          omega
        · exact h.inj a c p h1' h2' h3
  · rw [if_neg hf]
    refine ⟨hs, h.hand, h.idle, fun fr hfr => ?_, h.inj⟩
    rcases h.page fr hfr with h1 | h1
    · exact .inl h1
    · right
      apply hlook _ _ h1
      intro e3
      obtain ⟨j, hj⟩ := List.mem_iff_getElem?.1 hfr
      have := Pool.find_only h.inj (i := j) (p := (i : Int)) (by rw [List.getElem?_map, hj]; simp [e3]) (by omega)
      omega

end Go.Proofs.Ytfdhlpdmbgjkdaa

namespace Go.Proofs.Ytfdhlpdmbgjkdaa

abbrev Pages := List (Option Bytes)
def holeOf (A : Pages) : Nat := A.findIdx Option.isNone
theorem holeOf_le (A : Pages) : holeOf A ≤ A.length := List.findIdx_le_length
theorem lookup_hole (A : Pages) : lookup A (holeOf A) = none := by
  rw [lookup_nat]
  cases h : A[holeOf A]? with
  | none => rfl
  | some x =>
    have hlt := (List.getElem?_eq_some_iff.1 h).1
    have hw := List.findIdx_getElem (w := (hlt : A.findIdx Option.isNone < A.length))
    have h2 : A[A.findIdx Option.isNone] = x := (List.getElem?_eq_some_iff.1 h).2
    rw [h2] at hw
    cases x with
    | none => rfl
    | some b => cases hw
def addPage (A : Pages) (b : Bytes) : Pages := putAt A (holeOf A) (some b)
theorem lookup_add (A : Pages) (b : Bytes) (l : Int) : lookup (addPage A b) l = if l = holeOf A then some b else lookup A l := by
  by_cases h0 : l < 0
  · unfold lookup
    rw [if_pos h0, if_pos h0, if_neg (by omega)]
  · obtain ⟨i, rfl⟩ : ∃ i : Nat, l = i := ⟨l.toNat, by omega⟩
    rw [lookup_nat, lookup_nat]
    unfold addPage
    rw [putAt_get _ _ _ (holeOf_le A)]
    by_cases hi : i = holeOf A
    · rw [if_pos hi, if_pos (by omega)]; rfl
    · rw [if_neg hi, if_neg (by omega)]
theorem addPage_length (A : Pages) (b : Bytes) : (addPage A b).length ≤ A.length + 1 := by
  unfold addPage
  have := holeOf_le A
  rw [putAt_length _ _ _ this]
  omega
theorem lookup_set (A : Pages) (i : Nat) (l : Int) : lookup (A.set i none) l = if l = i then none else lookup A l := by
  by_cases h0 : l < 0
  · unfold lookup
    rw [if_pos h0, if_pos h0, if_neg (by omega)]
  · obtain ⟨j, rfl⟩ : ∃ j : Nat, l = j := ⟨l.toNat, by omega⟩
    rw [lookup_nat, lookup_nat, List.getElem?_set]
    by_cases hi : j = i
    · subst hi
      rw [if_pos rfl, if_pos rfl]
      split <;> rfl
    · rw [if_neg (by omega), if_neg (by omega)]

/-! chains -/
def linkBytes (next : Int) (b : Bytes) : Bytes := two (next + 1) ++ (two b.length ++ b)
abbrev Link := Int × Bytes
def nxt : List Link → Int
  | [] => -1
  | x :: _ => x.1
def Chain (A : Pages) : List Link → Prop
  | [] => True
  | x :: r => lookup A x.1 = some (pad (linkBytes (nxt r) x.2)) ∧ x.2.length ≤ 228 ∧ x.1 ≤ 511 ∧ Chain A r
def cbytes (r : List Link) : Bytes := r.flatMap Prod.snd
def cpages (r : List Link) : List Int := r.map Prod.fst

theorem lookup_nonneg {A : Pages} {l : Int} {b : Bytes} (h : lookup A l = some b) : 0 ≤ l := by
  obtain ⟨i, rfl, -⟩ := lookup_some h
  omega
theorem Chain.mono {A A' : Pages} : ∀ {r : List Link}, Chain A r → (∀ l ∈ cpages r, lookup A' l = lookup A l) → Chain A' r
  | [], _, _ => trivial
  | x :: r, h, hs => by
    obtain ⟨h1, h2, h3, h4⟩ := h
    exact ⟨by rw [hs x.1 (by simp [cpages])]; exact h1, h2, h3, Chain.mono h4 fun l hl => hs l (by simp only [cpages, List.map_cons, List.mem_cons] at hl ⊢; exact .inr hl)⟩
theorem Chain.there {A : Pages} : ∀ {r : List Link}, Chain A r → ∀ l ∈ cpages r, ∃ b, lookup A l = some b
  | [], _, l, hl => by simp [cpages] at hl
  | x :: r, h, l, hl => by
    obtain ⟨h1, h2, h3, h4⟩ := h
    simp only [cpages, List.map_cons, List.mem_cons] at hl
    rcases hl with rfl | hl
    · exact ⟨_, h1⟩
    · exact Chain.there h4 l hl
theorem Chain.nxt_bd {A : Pages} {r : List Link} (h : Chain A r) : -1 ≤ nxt r ∧ nxt r ≤ 511 := by
  cases r with
  | nil => exact ⟨by simp [nxt], by simp [nxt]⟩
  | cons x r =>
    obtain ⟨h1, h2, h3, h4⟩ := h
    have := lookup_nonneg h1
    exact ⟨by simp [nxt]; omega, by simpa [nxt] using h3⟩

/-! what chain.Put makes -/
def piece (v : Bytes) (i : Nat) : Bytes := (v.drop (i * 228)).take 228
theorem piece_length (v : Bytes) (i : Nat) : (piece v i).length ≤ 228 := by simp [piece]; omega
/-- After so many pieces, the last first: the pages, and the chain so far. -/
def laid (v : Bytes) (k : Nat) (A : Pages) : Nat → Pages × List Link
  | 0 => (A, [])
  | j + 1 =>
    let s := laid v k A j
    (addPage s.1 (pad (linkBytes (nxt s.2) (piece v (k - 1 - j)))), (((holeOf s.1 : Nat) : Int), piece v (k - 1 - j)) :: s.2)

structure LaidOk (v : Bytes) (k : Nat) (A : Pages) (j : Nat) : Prop where
  len : (laid v k A j).1.length ≤ A.length + j
  chain : Chain (laid v k A j).1 (laid v k A j).2
  many : (laid v k A j).2.length = j
  nodup : (cpages (laid v k A j).2).Nodup
  old : ∀ l, l ∉ cpages (laid v k A j).2 → lookup (laid v k A j).1 l = lookup A l
  new : ∀ l ∈ cpages (laid v k A j).2, lookup A l = none

theorem laid_ok (v : Bytes) (k : Nat) (A : Pages) : ∀ j, A.length + j ≤ 512 → LaidOk v k A j
  | 0, _ => ⟨Nat.le_refl _, trivial, rfl, by simp [laid, cpages], fun _ _ => rfl, fun l hl => by simp [laid, cpages] at hl⟩
  | j + 1, hj => by
    obtain ⟨h1, h2, h3, h4, h5, h6⟩ := laid_ok v k A j (by omega)
    obtain ⟨s, hs⟩ : ∃ s, s = laid v k A j := ⟨_, rfl⟩
    have hl : laid v k A (j + 1) = (addPage s.1 (pad (linkBytes (nxt s.2) (piece v (k - 1 - j)))), (((holeOf s.1 : Nat) : Int), piece v (k - 1 - j)) :: s.2) := by
      rw [hs]; rfl
    rw [← hs] at h1 h2 h3 h4 h5 h6
    have hh := holeOf_le s.1
    have hnot : ((holeOf s.1 : Nat) : Int) ∉ cpages s.2 := fun hm => by
      obtain ⟨b, hb⟩ := h2.there _ hm
      rw [lookup_hole] at hb
      cases hb
    refine ⟨?_, ?_, ?_, ?_, fun l hm => ?_, fun l hm => ?_⟩
    · rw [hl]
      have := addPage_length s.1 (pad (linkBytes (nxt s.2) (piece v (k - 1 - j))))
      show (addPage s.1 _).length ≤ _
      omega
    · rw [hl]
      refine ⟨?_, piece_length _ _, by show ((holeOf s.1 : Nat) : Int) ≤ 511; omega, h2.mono fun l hm => ?_⟩
      · show lookup (addPage s.1 _) ((holeOf s.1 : Nat) : Int) = _
        rw [lookup_add, if_pos rfl]
      · show lookup (addPage s.1 _) l = _
        have hne : ¬ l = ((holeOf s.1 : Nat) : Int) := fun e => hnot (by rw [← e]; exact hm)
        rw [lookup_add, if_neg hne]
    · rw [hl]
      show (_ :: s.2).length = j + 1
      rw [List.length_cons, h3]
    · rw [hl]
      show (((holeOf s.1 : Nat) : Int) :: cpages s.2).Nodup
      exact List.nodup_cons.2 ⟨hnot, h4⟩
    · rw [hl] at hm ⊢
      have hm' : l ∉ (((holeOf s.1 : Nat) : Int) :: cpages s.2) := hm
      rw [List.mem_cons, not_or] at hm'
      show lookup (addPage s.1 _) l = _
      rw [lookup_add, if_neg hm'.1]
      exact h5 l hm'.2
    · rw [hl] at hm
      have hm' : l ∈ (((holeOf s.1 : Nat) : Int) :: cpages s.2) := hm
      rw [List.mem_cons] at hm'
      rcases hm' with rfl | hm'
      · rw [← h5 _ hnot, lookup_hole]
      · exact h6 l hm'

/-- The value's pieces, from the i-th on. -/
def pieces (v : Bytes) (i : Nat) : Nat → Bytes
  | 0 => []
  | n + 1 => piece v i ++ pieces v (i + 1) n
theorem pieces_all (v : Bytes) : ∀ (n i : Nat), v.length ≤ (i + n) * 228 → pieces v i n = v.drop (i * 228)
  | 0, i, h => by
    rw [List.drop_eq_nil_of_le (by omega)]
    rfl
  | n + 1, i, h => by
    unfold pieces piece
    rw [pieces_all v n (i + 1) (by have e : (i + 1 + n) = i + (n + 1) := by omega
                                   rw [e]; exact h)]
    rw [show (i + 1) * 228 = i * 228 + 228 by omega, ← List.drop_drop, List.take_append_drop]
theorem laid_bytes (v : Bytes) (k : Nat) (A : Pages) : ∀ j, j ≤ k → cbytes (laid v k A j).2 = pieces v (k - j) j
  | 0, _ => rfl
  | j + 1, hj => by
    have ih := laid_bytes v k A j (by omega)
    have e1 : k - 1 - j = k - (j + 1) := by omega
    have e2 : k - (j + 1) + 1 = k - j := by omega
    unfold laid
    dsimp only
    show piece v (k - 1 - j) ++ cbytes (laid v k A j).2 = pieces v (k - (j + 1)) (j + 1)
    rw [ih, e1]
    show _ = piece v (k - (j + 1)) ++ pieces v (k - (j + 1) + 1) j
    rw [e2]

end Go.Proofs.Ytfdhlpdmbgjkdaa

namespace Go.Proofs.Ytfdhlpdmbgjkdaa
open Go.RowKit
set_option maxRecDepth 100000

/-- A pool at rest with the pages A and f free physical pages. -/
def PoolIs (w : World) (b : PoolB) (A : Pages) (f : Nat) : Prop := ∃ Q, PoolAt w b Q ∧ Q.View A f
theorem PoolIs.kept {w w' : World} {b : PoolB} {A : Pages} {f : Nat} {F : List Nat} (h : PoolIs w b A f) (hc : Chg F w w') (hn : ∀ k ∈ b.set, k ∉ F) : PoolIs w' b A f := by
  obtain ⟨Q, h1, h2⟩ := h
  exact ⟨Q, h1.kept hc hn, h2⟩
theorem PoolIs.kept0 {w w' : World} {b : PoolB} {A : Pages} {f : Nat} (h : PoolIs w b A f) (hc : Chg [] w w') : PoolIs w' b A f := h.kept hc (by simp)
theorem PoolIs.lt {w : World} {b : PoolB} {A : Pages} {f : Nat} (h : PoolIs w b A f) : ∀ k ∈ b.set, k < w.heap.size := by
  obtain ⟨Q, h1, h2⟩ := h
  exact h1.lt

theorem pool_with_yes {w : World} {b : PoolB} {A : Pages} {f : Nat} (h : PoolIs w b A f) (l : Int) {bs : Bytes} (ha : lookup A l = some bs) {g : Nat} {T : TypeId} {u : Value} (hb : Blk w g T [u]) (hg : g ∉ b.set) :
    Calls Try.prog 66 #[ptrV b.p, intV l, .func (.func 67) #[] #[ptrV g]] w fun e w' => e = .returned (intV 0) ∧ PoolIs w' b A f ∧ Blk w' g T [strV bs] ∧ Chg (g :: b.set) w w' := by
  obtain ⟨Q, h, hv⟩ := h
  have hh := pool_hold h hv.st.ok hv.clean hv.heldOk l
  obtain ⟨Q1, i, hi, e1, e2, e3, e4⟩ := hv.hold_yes ha
  rw [e1] at hh
  dsimp only at hh
  have hg1 := fun (w1 : World) (hc : Chg b.set w w1) => get1 bs g (hb.kept hc hg)
  have hlet := fun (w2 : World) (h2 : PoolAt w2 b Q1) => pool_let h2 l i e2 hi (by omega) (by omega)
  have hq : ({ Q1 with l := Q1.l.set i { Q1.l[i] with held := Q1.l[i].held - 1 } } : Pool) = Q1.letOne i := by
    unfold Pool.letOne
    rw [show Q1.l.getD i Frame.empty = Q1.l[i] by simp [List.getD, hi]]
  rw [hq] at hlet
  have HH := Lib.hid hh
  have HG := Lib.hid hg1
  have HL := Lib.hid hlet
  have HV := Lib.hid e4
  have HN := Lib.hid hg
  clear hh hg1 hlet e1 e2 e3 e4 h hv hq hi ha hb hg
  generalize Q1.letOne i = Q2 at *
  go_enter Try.func66, Try.ntmps66
  go_wp2_with (first
    | (go_at_call 71; with_reducible refine HH.out.mono ?_; rintro e w1 ⟨rfl, h1, hc1⟩; have H1 := Lib.hid h1; have C1 := Lib.hid hc1; clear h1 hc1)
    | (go_at_call 67; with_reducible refine (HG.out _ C1.out).mono ?_; rintro e w2 ⟨rfl, hb2, hc2⟩; have H2 := Lib.hid (H1.out.kept hc2 (fun k hk hm => by simp at hm; subst hm; exact absurd hk HN.out)); have B2 := Lib.hid hb2; have C2 := Lib.hid ((C1.out.mono (G := g :: b.set) (fun k hk => by simp [hk])).trans1 (hc2.mono (by simp))); clear hb2 hc2)
    | (go_at_call 72; with_reducible refine (HL.out _ H2.out).mono ?_; rintro e w3 ⟨rfl, h3, hc3⟩; have H3 := Lib.hid h3; have B3 := Lib.hid (B2.out.kept hc3 HN.out); have C3 := Lib.hid (C2.out.trans1 (hc3.mono (fun k hk => by simp [hk]))); clear h3 hc3))
  go_ret
  exact ⟨rfl, ⟨Q2, H3.out, HV.out⟩, B3.out, C3.out⟩

theorem pool_with_no {w : World} {b : PoolB} {A : Pages} {f : Nat} (h : PoolIs w b A f) (l : Int) (ha : lookup A l = none) (v : Value) :
    Calls Try.prog 66 #[ptrV b.p, intV l, v] w fun e w' => e = .returned (intV 3) ∧ PoolIs w' b A f ∧ Chg b.set w w' := by
  obtain ⟨Q, h, hv⟩ := h
  have hh := pool_hold h hv.st.ok hv.clean hv.heldOk l
  rw [hv.hold_no ha] at hh
  dsimp only at hh
  have HH := Lib.hid hh
  have HV := Lib.hid hv
  clear hh h hv ha
  go_enter Try.func66, Try.ntmps66
  go_wp2_with (first
    | (go_at_call 71; with_reducible refine HH.out.mono ?_; rintro e w1 ⟨rfl, h1, hc1⟩; have H1 := Lib.hid h1; have C1 := Lib.hid hc1; clear h1 hc1))
  go_ret
  exact ⟨rfl, ⟨Q, H1.out, HV.out⟩, C1.out⟩

theorem pool_get_yes {w : World} {b : PoolB} {A : Pages} {f : Nat} (h : PoolIs w b A f) (l : Int) {bs : Bytes} (ha : lookup A l = some bs) :
    Calls Try.prog 56 #[ptrV b.p, intV l] w fun e w' => e = .returned (.tuple #[strV bs, intV 0]) ∧ PoolIs w' b A f ∧ Chg b.set w w' := by
  have hB : Blk (w.alloc (.cells #[strV []] 9)) w.heap.size 9 [strV []] := Blk.new w _ _
  have hlt := h.lt
  have hnb : w.heap.size ∉ b.set := fun hm => by have := hlt _ hm; omega
  have h0 := h.kept0 ((Chg.refl [] w).alloc (.cells #[strV []] 9))
  have hw := pool_with_yes h0 l ha hB hnb
  have HW := Lib.hid hw
  have HN := Lib.hid hnb
  clear hw h0 hB h ha hnb hlt
  have hmf : ∀ (fn : Fn) (first cap : Array Value) (w : World), (Instr.makeFunc fn first cap).run Try.prog w = .ok (.func fn first cap) w := fun _ _ _ _ => rfl
  go_enter Try.func56, Try.ntmps56
  go_wp2_with (first
    | (go_at_call 66; with_reducible refine HW.out.mono ?_; rintro e w1 ⟨rfl, h1, hb1, hc1⟩; have H1 := Lib.hid h1; have C1 := Lib.hid hc1; have k0 := hb1.cell 0; simp at k0; clear h1 hb1 hc1))
  go_ret2
  refine ⟨rfl, H1.out, ((Chg.refl _ _).alloc _).trans C1.out (fun k hk => ?_)⟩
  simp only [List.mem_cons] at hk
  rcases hk with rfl | hk
  · exact .inr (Nat.le_refl _)
  · exact .inl hk

theorem pool_get_no {w : World} {b : PoolB} {A : Pages} {f : Nat} (h : PoolIs w b A f) (l : Int) (ha : lookup A l = none) :
    Calls Try.prog 56 #[ptrV b.p, intV l] w fun e w' => e = .returned (.tuple #[strV [], intV 3]) ∧ PoolIs w' b A f ∧ Chg b.set w w' := by
  have hB : Blk (w.alloc (.cells #[strV []] 9)) w.heap.size 9 [strV []] := Blk.new w _ _
  have hlt := h.lt
  have hnb : w.heap.size ∉ b.set := fun hm => by have := hlt _ hm; omega
  have h0 := h.kept0 ((Chg.refl [] w).alloc (.cells #[strV []] 9))
  have hw := pool_with_no h0 l ha (.func (.func 67) #[] #[ptrV w.heap.size])
  have HW := Lib.hid hw
  have HN := Lib.hid hnb
  have HB := Lib.hid hB
  clear hw h0 hB h ha hnb hlt
  have hmf : ∀ (fn : Fn) (first cap : Array Value) (w : World), (Instr.makeFunc fn first cap).run Try.prog w = .ok (.func fn first cap) w := fun _ _ _ _ => rfl
  go_enter Try.func56, Try.ntmps56
  go_wp2_with (first
    | (go_at_call 66; with_reducible refine HW.out.mono ?_; rintro e w1 ⟨rfl, h1, hc1⟩; have H1 := Lib.hid h1; have C1 := Lib.hid hc1; have k0 := (HB.out.kept hc1 HN.out).cell 0; simp at k0; clear h1 hc1))
  go_ret2
  exact ⟨rfl, H1.out, ((Chg.refl _ _).alloc _).trans1 C1.out⟩

end Go.Proofs.Ytfdhlpdmbgjkdaa

namespace Go.Proofs.Ytfdhlpdmbgjkdaa
open Go.RowKit
set_option maxRecDepth 100000
attribute [local go_sem ↓] store_frame

/-- The pool at b is at rest; its store may lie in other blocks now. -/
def PoolTo (b : PoolB) (w w' : World) (A : Pages) (f : Nat) : Prop := ∃ sb, PoolIs w' { b with s := sb } A f ∧ Grew b.set (PoolB.set { b with s := sb }) w w'

theorem PoolTo.same {b : PoolB} {w w' : World} {A A' : Pages} {f f' : Nat} (h0 : PoolIs w b A f) (h : PoolIs w' b A' f') (hc : Chg b.set w w') : PoolTo b w w' A' f' := ⟨b.s, h, Grew.same hc h0.lt⟩

theorem pool_drop_no {w : World} {b : PoolB} {A : Pages} {f : Nat} (h : PoolIs w b A f) (l : Int) (ha : lookup A l = none) :
    Calls Try.prog 26 #[ptrV b.p, intV l] w fun e w' => e = .returned (intV 3) ∧ PoolTo b w w' A f := by
  have h0 := h
  obtain ⟨Q, h, hv⟩ := h
  have hfd := pool_find h l
  have hfl : Q.find l < 0 := by
    apply Classical.byContradiction
    intro hn
    obtain ⟨i, hi, -, -, -, h4⟩ := hv.find_hit (by omega : 0 ≤ Q.find l)
    rw [ha] at h4
    cases h4
  have hsd := fun (w1 : World) (h1 : PoolAt w1 b Q) => store_drop h1.s hv.st.ok l
  rw [hv.st.drop_no ha] at hsd
  dsimp only at hsd
  have HF := Lib.hid hfd
  have HD := Lib.hid hsd
  have HH := Lib.hid h
  have HV := Lib.hid hv
  have H0 := Lib.hid h0
  clear hfd hsd h hv h0 ha
  generalize Q.find l = fi at *
  have hmf : ∀ (fn : Fn) (first cap : Array Value) (w : World), (Instr.makeFunc fn first cap).run Try.prog w = .ok (.func fn first cap) w := fun _ _ _ _ => rfl
  go_enter Try.func26, Try.ntmps26
  go_wp2_with (first
    | (go_at_call 36; with_reducible refine HF.out.mono ?_; rintro e w1 ⟨rfl, hc1⟩; have H1 := Lib.hid (HH.out.kept0 hc1); have k0 := H1.out.cells.1; have C1 := Lib.hid (hc1.mono (G := b.set) (by simp)); clear hc1)
    | (go_at_call 37; with_reducible refine (HD.out _ H1.out).mono ?_; rintro e w2 ⟨rfl, hs2⟩; have H2 := Lib.hid (H1.out.onS hs2); clear hs2))
  go_ret
  obtain ⟨sb, p2, g2⟩ := H2.out
  exact ⟨rfl, sb, ⟨_, p2, HV.out⟩, ((Grew.same C1.out HH.out.lt).trans g2)⟩

set_option maxHeartbeats 1000000 in
theorem pool_drop_yes {w : World} {b : PoolB} {A : Pages} {f : Nat} (h : PoolIs w b A f) (i : Nat) {bs : Bytes} (ha : lookup A i = some bs) :
    Calls Try.prog 26 #[ptrV b.p, intV i] w fun e w' => e = .returned (intV 0) ∧ PoolTo b w w' (A.set i none) (f + 1) := by
  obtain ⟨Q, h, hv⟩ := h
  have hfd := pool_find h i
  obtain ⟨Q', hq, hV'⟩ := hv.drop_yes ha
  obtain ⟨S', hd, -⟩ := hv.st.drop_ok i (by obtain ⟨j, e, hj⟩ := lookup_some ha; obtain rfl : i = j := by omega
                                            exact hj)
  have hsd := fun (w1 : World) (h1 : PoolAt w1 b Q) => store_drop h1.s hv.st.ok i
  unfold Pool.drop at hq
  rw [if_neg (hv.free _), hd, if_neg (by simp)] at hq
  rw [hd] at hsd
  dsimp only at hsd hq
  have hmf : ∀ (fn : Fn) (first cap : Array Value) (w : World), (Instr.makeFunc fn first cap).run Try.prog w = .ok (.func fn first cap) w := fun _ _ _ _ => rfl
  have HF := Lib.hid hfd
  have HD := Lib.hid hsd
  have HH := Lib.hid h
  by_cases hf : 0 ≤ Q.find i
  · obtain ⟨k, hk, e1, e2, -⟩ := hv.find_hit hf
    rw [if_pos hf, e1, Int.toNat_natCast] at hq
    obtain ⟨g, cap, hlv, hgb, hcap1, hcap2⟩ := pool_lv h
    have hcell := fun (w1 : World) (h1 : PoolAt w1 b Q) => (frame_cells2 h1 hlv k hk).2.2.1
    rw [(hv.idle _ (List.getElem_mem hk)).1] at hcell
    have hk1 := fun (w1 : World) (h1 : PoolAt w1 b Q) => (show w1.cell? ⟨b.p, 1, none⟩ = some (.slice (some ⟨g, 0, none⟩) Q.l.length cap) by rw [h1.cells.2.1, hlv])
    have hput := fun (sb : StoreB) (w3 : World) (h3 : PoolAt w3 { b with s := sb } { Q with s := S' }) => h3.putF (g := g) (cap := cap) hlv k hk Frame.empty
    have hrow := fun (sb : StoreB) (w3 : World) (h3 : PoolAt w3 { b with s := sb } { Q with s := S' }) => (own_frame_put h3.l (g := g) (cap := cap) hlv k hk Frame.empty).1
    have hk2 := fun (sb : StoreB) (w3 : World) (h3 : PoolAt w3 { b with s := sb } { Q with s := S' }) => (show w3.cell? ⟨b.p, 1, none⟩ = some (.slice (some ⟨g, 0, none⟩) Q.l.length cap) by rw [h3.cells.2.1]; exact congrArg some hlv)
    have hag : AggOf (frameV Frame.empty) 5 := AggOf.mk' (us := Frame.empty.cells) rfl (Frame.cells_one _)
    have hfew := h.few
    have hem := fun (wr : World) => pool_empty wr
    simp only [Prod.mk.injEq, true_and] at hq
    rw [hq] at hput
    rw [e1] at HF
    have HC := Lib.hid hcell
    have HK1 := Lib.hid hk1
    have HK2 := Lib.hid hk2
    have HPUT := Lib.hid hput
    have HROW := Lib.hid hrow
    have HV := Lib.hid hV'
    have HEM := Lib.hid hem
    have hil : (k : Int) < (Q.l.length : Int) := by omega
    have hk0 : (0 : Int) ≤ (k : Int) := by omega
    dsimp only [frameV, Frame.empty] at hag
    have HAG := Lib.hid hag
    have HLV := Lib.hid (show b.lv = .slice (some ⟨g, 0, none⟩) Q.l.length cap from hlv)
    clear hfd hsd h hv hV' hcell hk1 hk2 hput hrow hem hlv hgb hq hf e1 e2 hk hd ha hag
    obtain ⟨n, hn⟩ : ∃ n, n = Q.l.length := ⟨_, rfl⟩
    rw [← hn] at HK1 HK2 HLV hcap1 hfew hil
    clear hn
    go_enter Try.func26, Try.ntmps26
    go_wp2_with (first
      | (go_at_call 36; with_reducible refine HF.out.mono ?_; rintro e w1 ⟨rfl, hc1⟩; have H1 := Lib.hid (HH.out.kept0 hc1); have k0 := H1.out.cells.1; have k1 := HK1.out _ H1.out; have k2 := HC.out _ H1.out; have C1 := Lib.hid (hc1.mono (G := b.set) (by simp)); clear hc1)
      | (go_at_call 37; with_reducible refine (HD.out _ H1.out).mono ?_; rintro e w2 ⟨rfl, hs2⟩; obtain ⟨sb, p2, g2⟩ := H1.out.onS hs2; have P2 := Lib.hid p2; have G2 := Lib.hid g2; clear k1 k2 hs2 p2 g2; have k1 := HK2.out _ _ P2.out))
    have k9 := HROW.out sb _ P2.out
    have hag := HAG.out
    go_region_held3 (fun w' => w'.cell? ⟨b.p, 1, none⟩ = some (.slice (some ⟨g, 0, none⟩) n cap))
      (first | exact k1 | exact k3 | exact (HPUT.out sb _ P3.out).1.cells.2.1.trans (congrArg some HLV.out))
      (first
      | (go_at_call 34; with_reducible refine (HEM.out _).mono ?_; rintro e w3 ⟨rfl, hc3⟩; have P3 := Lib.hid (P2.out.kept0 ((Chg.drew (Chg.refl [] _)).trans1 hc3)); have k3 := HK2.out _ _ P3.out; have k8 := HROW.out sb _ P3.out))
    go_wp2_with fail
    go_ret
    refine ⟨rfl, sb, ⟨Q', (HPUT.out sb _ P3.out).1, HV.out⟩, ((Grew.same C1.out HH.out.lt).trans (G2.out.trans (Grew.same ?_ P2.out.lt)))⟩
    exact (((Chg.refl _ _).drew).trans0 hc3).trans1 (HPUT.out sb _ P3.out).2
  · rw [if_neg hf] at hq
    simp only [Prod.mk.injEq, true_and] at hq
    subst hq
    have hf2 : Q.find i < 0 := by omega
    have HV := Lib.hid hV'
    clear hfd hsd h hv hV' hf hd ha
    generalize Q.find i = fi at *
    go_enter Try.func26, Try.ntmps26
    go_wp2_with (first
      | (go_at_call 36; with_reducible refine HF.out.mono ?_; rintro e w1 ⟨rfl, hc1⟩; have H1 := Lib.hid (HH.out.kept0 hc1); have k0 := H1.out.cells.1; have C1 := Lib.hid (hc1.mono (G := b.set) (by simp)); clear hc1)
      | (go_at_call 37; with_reducible refine (HD.out _ H1.out).mono ?_; rintro e w2 ⟨rfl, hs2⟩; have H2 := Lib.hid (H1.out.onS hs2); clear hs2))
    go_ret
    obtain ⟨sb, p2, g2⟩ := H2.out
    exact ⟨rfl, sb, ⟨_, p2, HV.out⟩, ((Grew.same C1.out HH.out.lt).trans g2)⟩

/-! New of a page -/
theorem pool_new_ok {w : World} {b : PoolB} {A : Pages} {f : Nat} (h : PoolIs w b A (f + 1)) (pl : Bytes) (hl : pl.length ≤ 232) (hh : holeOf A < 512) :
    Calls Try.prog 24 #[ptrV b.p, strV pl] w fun e w' => e = .returned (.tuple #[intV (holeOf A), intV 0]) ∧ PoolTo b w w' (addPage A (pad pl)) f := by
  obtain ⟨Q, h, hv⟩ := h
  obtain ⟨S', e, hs⟩ := hv.st.new_ok pl hl hh
  refine (pool_make h hv.st.ok pl (by omega)).mono ?_
  rintro e' w' ⟨rfl, sb, p2, g2⟩
  rw [e] at p2 ⊢
  exact ⟨rfl, sb, ⟨_, p2, hv.onNew hs⟩, g2⟩
theorem pool_new_full {w : World} {b : PoolB} {A : Pages} (h : PoolIs w b A 0) (pl : Bytes) (hl : pl.length ≤ 232) :
    Calls Try.prog 24 #[ptrV b.p, strV pl] w fun e w' => e = .returned (.tuple #[intV 0, intV 11]) ∧ PoolTo b w w' A 0 := by
  obtain ⟨Q, h, hv⟩ := h
  have e := hv.st.new_full pl hl
  refine (pool_make h hv.st.ok pl (by omega)).mono ?_
  rintro e' w' ⟨rfl, sb, p2, g2⟩
  rw [e] at p2 ⊢
  exact ⟨rfl, sb, ⟨_, p2, hv⟩, g2⟩

end Go.Proofs.Ytfdhlpdmbgjkdaa
