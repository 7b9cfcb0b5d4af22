/- A part of the walks of the program's functions, each a contract that its caller uses; no condition but what each theorem names. Plain Lean: a root's bytes and back; a part of a table and back. Plain Lean: Commit of both. The walk of shadow's lay where nothing fails. -/
import Derived.Test.YtjbpdgknhbnfgaaGreatM8

namespace Go.Proofs.YtjbpdgknhbnfgaaGreat

theorem two_length (n : Int) : (two n).length = 2 := rfl
theorem untwo_two (n : Int) (h0 : 0 ≤ n) (h1 : n ≤ 65535) : untwo (UInt8.ofNat ((n / 256 % 256).toNat)) (UInt8.ofNat ((n % 256).toNat)) = n := by
  unfold untwo
  simp only [UInt8.toNat_ofNat']
  omega
theorem twos_length (l : List Int) : (twos l).length = 2 * l.length := by
  induction l with
  | nil => rfl
  | cons x l ih =>
    show (two x ++ twos l).length = _
    rw [List.length_append, two_length, ih, List.length_cons]
    omega
theorem twos_get : ∀ (l : List Int) (i : Nat) (h : i < l.length), (twos l)[2 * i]? = some (UInt8.ofNat ((l[i] / 256 % 256).toNat)) ∧ (twos l)[2 * i + 1]? = some (UInt8.ofNat ((l[i] % 256).toNat))
  | x :: l, 0, _ => ⟨rfl, rfl⟩
  | x :: l, i + 1, h => by
    have ih := twos_get l i (by simpa using h)
    have e : twos (x :: l) = two x ++ twos l := rfl
    rw [e, show 2 * (i + 1) = 2 * i + 2 by omega, List.getElem?_append_right (by rw [two_length]; omega), two_length, List.getElem?_append_right (by rw [two_length]; omega), two_length, show 2 * i + 2 + 1 - 2 = 2 * i + 1 by omega, Nat.add_sub_cancel]
    exact ih
theorem numAt_of {s : Bytes} {i : Nat} {x y : UInt8} (h1 : s[i]? = some x) (h2 : s[i + 1]? = some y) : numAt s i = untwo x y := by
  unfold numAt
  rw [List.getD, h1, List.getD, h2]
  rfl
theorem numAt_twos (l : List Int) (rest : Bytes) (i : Nat) (h : i < l.length) (h0 : 0 ≤ l[i]) (h1 : l[i] ≤ 65535) : numAt (twos l ++ rest) (2 * i) = l[i] := by
  obtain ⟨g1, g2⟩ := twos_get l i h
  have hl := twos_length l
  rw [numAt_of (x := UInt8.ofNat ((l[i] / 256 % 256).toNat)) (y := UInt8.ofNat ((l[i] % 256).toNat)) (by rw [List.getElem?_append_left (by omega)]; exact g1) (by rw [List.getElem?_append_left (by omega)]; exact g2)]
  exact untwo_two _ h0 h1

/-! roots -/
theorem partsRight_of : ∀ (l seen : List Int), (∀ p ∈ l, 0 ≤ p ∧ p ≤ 1023) → l.Nodup → (∀ p ∈ l, p ∉ seen) → partsRight seen l = true
  | [], _, _, _, _ => rfl
  | p :: l, seen, h1, h2, h3 => by
    obtain ⟨n1, n2⟩ := List.nodup_cons.1 h2
    have hp := h1 p (by simp)
    have hs := h3 p (by simp)
    unfold partsRight
    rw [if_neg]
    · refine partsRight_of l (seen ++ [p]) (fun q hq => h1 q (by simp [hq])) n2 fun q hq hm => ?_
      rw [List.mem_append, List.mem_singleton] at hm
      rcases hm with hm | rfl
      · exact h3 q (by simp [hq]) hm
      · exact n1 hq
    · rintro (h | h | h)
      · omega
      · omega
      · exact hs h

theorem Root.right_of {r : Root} (h1 : 1 ≤ r.epoch ∧ r.epoch ≤ 1099511627776) (h2 : 0 ≤ r.logical ∧ r.logical ≤ 512) (h3 : (r.parts.length : Int) = rootNeed r.logical) (h4 : ∀ p ∈ r.parts, 0 ≤ p ∧ p ≤ 1023) (h5 : r.parts.Nodup) : r.right = true := by
  unfold Root.right
  rw [if_neg]
  · exact partsRight_of _ _ h4 h5 (by simp)
  · rintro (h | h | h | h | h)
    · omega
    · omega
    · omega
    · omega
    · exact h h3

theorem rootNeed_le {n : Int} (h0 : 0 ≤ n) (h1 : n ≤ 512) : 0 ≤ rootNeed n ∧ rootNeed n ≤ 5 := by
  unfold rootNeed
  split <;> omega

theorem Root.body_eq (r : Root) : r.body = twos (r.logical :: (r.parts.length : Int) :: (r.parts ++ List.replicate (5 - r.parts.length) 0)) ++ List.replicate 30 0 := by
  unfold Root.body twos
  simp only [List.flatMap_cons, List.append_assoc]

theorem rootGet_bytes (r : Root) (hr : r.right = true) (h1 : 1 ≤ r.epoch ∧ r.epoch ≤ 1099511627776) (h2 : 0 ≤ r.logical ∧ r.logical ≤ 512) (h3 : r.parts.length ≤ 5) (h4 : ∀ p ∈ r.parts, 0 ≤ p ∧ p ≤ 1023) : rootGet r.bytes = some r := by
  have hbl : r.body.length = 44 := by
    rw [Root.body_eq, List.length_append, twos_length]
    simp
    omega
  have hcl : (crcLay r.body).length = 48 := by
    unfold crcLay
    rw [List.length_append, crcFour_length, hbl]
  have hb : r.bytes = packI r.epoch ++ (crcLay r.body ++ packI r.epoch) := by
    unfold Root.bytes
    rw [List.append_assoc]
  have hlen : r.bytes.length = 64 := by
    rw [hb]
    simp [packI_length, hcl]
  have t8 : r.bytes.take 8 = packI r.epoch := by rw [hb]; exact List.take_left' (packI_length _)
  have d8 : r.bytes.drop 8 = crcLay r.body ++ packI r.epoch := by rw [hb]; exact List.drop_left' (packI_length _)
  have d56 : r.bytes.drop 56 = packI r.epoch := by
    rw [show (56 : Nat) = 8 + 48 from rfl, ← List.drop_drop, d8]
    exact List.drop_left' hcl
  have m48 : (r.bytes.drop 8).take 48 = crcLay r.body := by rw [d8]; exact List.take_left' hcl
  have d12 : (r.bytes.drop 12).take 44 = r.body := by
    rw [show (12 : Nat) = 8 + 4 from rfl, ← List.drop_drop, d8]
    unfold crcLay
    rw [List.append_assoc, List.drop_left' (crcFour_length _)]
    exact List.take_left' hbl
  have hun : unpackI (packI r.epoch) = r.epoch := unpackI_packI _ (by omega) (by omega)
  have hnum : ∀ i (hi : i < 7), numAt r.body (2 * i) = (r.logical :: (r.parts.length : Int) :: (r.parts ++ List.replicate (5 - r.parts.length) 0))[i]'(by simp; omega) := fun i hi => by
    rw [Root.body_eq]
    have hall : ∀ x ∈ (r.logical :: (r.parts.length : Int) :: (r.parts ++ List.replicate (5 - r.parts.length) 0)), 0 ≤ x ∧ x ≤ 65535 := by
      intro x hx
      simp only [List.mem_cons, List.mem_append] at hx
      rcases hx with rfl | rfl | hx | hx
      · omega
      · omega
      · have := h4 x hx; omega
      · rw [List.eq_of_mem_replicate hx]; omega
    have hmem := hall _ (List.getElem_mem (l := (r.logical :: (r.parts.length : Int) :: (r.parts ++ List.replicate (5 - r.parts.length) 0))) (n := i) (by simp; omega))
    exact numAt_twos _ _ i (by simp; omega) hmem.1 hmem.2
  have e0 : numAt r.body 0 = r.logical := hnum 0 (by omega)
  have e2 : numAt r.body 2 = r.parts.length := hnum 1 (by omega)
  have hof : rootOf r.bytes = r := by
    unfold rootOf
    dsimp only
    rw [d12, t8, hun, e0, e2, Int.toNat_natCast]
    have hp : ((List.range 5).map fun i => numAt r.body (4 + 2 * i)).take r.parts.length = r.parts := by
      apply List.ext_getElem
      · simp; omega
      · intro i i1 i2
        rw [List.getElem_take, List.getElem_map, List.getElem_range]
        have := hnum (i + 2) (by omega)
        rw [show 2 * (i + 2) = 4 + 2 * i by omega] at this
        rw [this]
        simp only [List.getElem_cons_succ]
        rw [List.getElem_append_left i2]
    rw [hp]
  unfold rootGet
  rw [if_neg (by rw [hlen]; simp), t8, d56, m48, d12, e2, hof]
  rw [if_neg (by rw [crcOk_lay]; simp), if_neg (by omega)]
  have hput : rootPut r = (r.bytes, 0) := by
    unfold rootPut
    rw [hr]
    rfl
  rw [if_pos hput]

/-! parts of a table -/
theorem getPart_of (t : List Int) (i : Nat) (hi : 116 * i < t.length) (h : ∀ x ∈ t, -1 ≤ x ∧ x ≤ 1023) :
    (putPart t i).2 = 0 ∧ (putPart t i).1.length ≤ 232 ∧ getPart (pad (putPart t i).1) (min 116 ((t.length : Int) - 116 * (i : Int))) = ((t.drop (116 * i)).take 116, 0) := by
  obtain ⟨c, hc⟩ : ∃ c, c = (t.drop (116 * i)).take 116 := ⟨_, rfl⟩
  have hcl : c.length = min 116 (t.length - 116 * i) := by rw [hc, List.length_take, List.length_drop]
  have hcm : ∀ x ∈ c, -1 ≤ x ∧ x ≤ 1023 := fun x hx => h x (List.mem_of_mem_drop (List.mem_of_mem_take (hc ▸ hx)))
  have hput : putPart t i = (twos (c.map fun p => max p (-1) + 1), 0) := by
    unfold putPart
    rw [← hc]
    rw [if_neg, if_neg]
    · intro hany
      rw [List.any_eq_true] at hany
      obtain ⟨x, hx, hd⟩ := hany
      have := hcm x hx
      simp at hd
      omega
    · unfold rootNeed
      split <;> omega
  have hmap : (c.map fun p => max p (-1) + 1) = c.map (· + 1) := by
    apply List.map_congr_left
    intro x hx
    have := hcm x hx
    omega
  rw [hput, hmap]
  have htl : (twos (c.map (· + 1))).length = 2 * c.length := by rw [twos_length, List.length_map]
  refine ⟨rfl, by show (twos (c.map (· + 1))).length ≤ 232; omega, ?_⟩
  have hmany : min 116 ((t.length : Int) - 116 * (i : Int)) = (c.length : Int) := by omega
  rw [hmany, ← hc]
  have hnum : ((List.range c.length).map fun j => numAt (pad (twos (c.map (· + 1)))) (2 * j)) = c.map (· + 1) := by
    apply List.ext_getElem
    · simp
    · intro j j1 j2
      rw [List.getElem_map, List.getElem_range]
      unfold pad
      have hm := hcm (c[j]'(by simpa using j2)) (List.getElem_mem (by simpa using j2))
      rw [numAt_twos _ _ j j2 (by simp; omega) (by simp; omega)]
  have hsub : ((List.range c.length).map fun j => numAt (pad (twos (c.map (· + 1)))) (2 * j) - 1) = c := by
    have : ((List.range c.length).map fun j => numAt (pad (twos (c.map (· + 1)))) (2 * j) - 1) = ((List.range c.length).map fun j => numAt (pad (twos (c.map (· + 1)))) (2 * j)).map (· - 1) := by rw [List.map_map]; rfl
    rw [this, hnum, List.map_map]
    conv => rhs; rw [← List.map_id c]
    apply List.map_congr_left
    intro x _
    show x + 1 - 1 = x
    omega
  have hpl : (pad (twos (c.map (· + 1)))).length = 232 := pad_length _ (by omega)
  dsimp only
  unfold getPart
  rw [if_neg (by omega), if_neg (by rw [hpl]; omega), Int.toNat_natCast, hnum, if_neg, hsub]
  · intro hany
    rw [List.any_eq_true] at hany
    obtain ⟨x, hx, hd⟩ := hany
    obtain ⟨y, hy, rfl⟩ := List.mem_map.1 hx
    have := hcm y hy
    simp at hd
    omega

end Go.Proofs.YtjbpdgknhbnfgaaGreat

namespace Go.Proofs.YtjbpdgknhbnfgaaGreat

/-! a list up to its last element that is not empty -/
def trimP {α : Type} (p : α → Bool) (L : List α) : List α := (L.reverse.dropWhile p).reverse
def trimT (t : List Int) : List Int := trimP (fun x => decide (x < 0)) t
theorem trimP_take {α : Type} (p : α → Bool) (d : α) : ∀ (n : Nat) (L : List α), L.length = n → trimP p L = L.take (trimP p L).length ∧ (trimP p L).length ≤ L.length ∧ (∀ i, (trimP p L).length ≤ i → i < L.length → p (L.getD i d) = true) ∧ ((trimP p L).length = 0 ∨ p (L.getD ((trimP p L).length - 1) d) = false)
  | 0, L, h => by
    have : L = [] := List.eq_nil_of_length_eq_zero h
    subst this
    exact ⟨rfl, Nat.le_refl _, fun i _ hi => by simp at hi, .inl rfl⟩
  | n + 1, L, h => by
    obtain ⟨M, x, rfl⟩ : ∃ M x, L = M ++ [x] := ⟨L.dropLast, L.getLast (fun e => by rw [e] at h; simp at h), (List.dropLast_concat_getLast _).symm⟩
    have hM : M.length = n := by simpa using h
    have hr : trimP p (M ++ [x]) = if p x then trimP p M else M ++ [x] := by
      unfold trimP
      rw [List.reverse_append, List.reverse_cons, List.reverse_nil, List.nil_append, List.singleton_append, List.dropWhile_cons]
      split
      · rfl
      · rw [List.reverse_cons, List.reverse_reverse]
    by_cases hp : p x = true
    · rw [hr, if_pos hp]
      obtain ⟨h1, h2, h3, h4⟩ := trimP_take p d n M hM
      refine ⟨by rw [List.take_append_of_le_length h2]; exact h1, by rw [List.length_append]; omega, fun i hi hl => ?_, ?_⟩
      · by_cases hi2 : i < M.length
        · have : (M ++ [x]).getD i d = M.getD i d := by simp [List.getD, List.getElem?_append_left hi2]
          rw [this]
          exact h3 i hi hi2
        · have : i = M.length := by rw [List.length_append] at hl; simp at hl; omega
          subst this
          have : (M ++ [x]).getD M.length d = x := by simp [List.getD]
          rw [this, hp]
      · rcases h4 with h4 | h4
        · exact .inl h4
        · by_cases h0 : (trimP p M).length = 0
          · exact .inl h0
          · right
            have : (M ++ [x]).getD ((trimP p M).length - 1) d = M.getD ((trimP p M).length - 1) d := by simp [List.getD, List.getElem?_append_left (show (trimP p M).length - 1 < M.length by omega)]
            rw [this]
            exact h4
    · rw [hr, if_neg hp]
      refine ⟨by rw [List.take_of_length_le (Nat.le_refl _)], Nat.le_refl _, fun i hi hl => absurd hl (by omega), .inr ?_⟩
      have : (M ++ [x]).getD ((M ++ [x]).length - 1) d = x := by simp [List.getD]
      rw [this]
      simpa using hp

/-- Two lists of which the same places are empty have the same length up to the last that is not. -/
theorem trimP_same {α β : Type} (p : α → Bool) (q : β → Bool) (d : α) (e : β) (hd : p d = true) (he : q e = true) (L : List α) (M : List β) (h : ∀ i, p (L.getD i d) = q (M.getD i e)) : (trimP p L).length = (trimP q M).length := by
  obtain ⟨-, l2, l3, l4⟩ := trimP_take p d _ L rfl
  obtain ⟨-, m2, m3, m4⟩ := trimP_take q e _ M rfl
  have hL : ∀ i, (trimP p L).length ≤ i → p (L.getD i d) = true := fun i hi => by
    by_cases h1 : i < L.length
    · exact l3 i hi h1
    · rw [List.getD, List.getElem?_eq_none (by omega)]; exact hd
  have hM : ∀ i, (trimP q M).length ≤ i → q (M.getD i e) = true := fun i hi => by
    by_cases h1 : i < M.length
    · exact m3 i hi h1
    · rw [List.getD, List.getElem?_eq_none (by omega)]; exact he
  apply Nat.le_antisymm
  · apply Classical.byContradiction
    intro hn
    rcases l4 with l4 | l4
    · omega
    · have := hM ((trimP p L).length - 1) (by omega)
      rw [← h] at this
      rw [this] at l4
      cases l4
  · apply Classical.byContradiction
    intro hn
    rcases m4 with m4 | m4
    · omega
    · have := hL ((trimP q M).length - 1) (by omega)
      rw [h] at this
      rw [this] at m4
      cases m4

theorem tabF_trim (t : List Int) (h : ∀ x ∈ t, -1 ≤ x) : tabF (trimT t) = tabF t := by
  obtain ⟨h1, h2, h3, -⟩ := trimP_take (fun x : Int => decide (x < 0)) (-1) _ t rfl
  funext i
  unfold trimT tabF
  rw [h1]
  have hg : ∀ (L : List Int), L.getD i (-1) = (L[i]?).getD (-1) := fun L => rfl
  rw [hg, hg, List.getElem?_take]
  split
  · rfl
  · rename_i hn
    by_cases hl : i < t.length
    · have := h3 i (by omega) hl
      rw [hg] at this
      simp only [decide_eq_true_eq] at this
      have hm : -1 ≤ (t[i]?).getD (-1) := by
        rw [List.getElem?_eq_getElem hl]
        exact h _ (List.getElem_mem hl)
      show (-1 : Int) = _
      omega
    · rw [List.getElem?_eq_none (by omega)]

/-! Commit -/
def Store.layParts (S : Store) : List Int → Nat → Int × Store
  | [], _ => (0, S)
  | id :: l, i => if (S.put id 1 (putPart S.table i).1).1 ≠ 0 then S.put id 1 (putPart S.table i).1 else (S.put id 1 (putPart S.table i).1).2.layParts l (i + 1)
def Store.lay (S : Store) (parts : List Int) : Int × Store :=
  let a := S.layParts parts 0
  if a.1 ≠ 0 then a else
  let b := a.2.d.sync
  if b.1 ≠ 0 then (b.1, { a.2 with d := b.2 }) else
  let c := b.2.write (1 - S.slot) (rootPut ⟨S.epoch + 1, S.table.length, parts⟩).1
  if c.1 ≠ 0 then (c.1, { a.2 with d := c.2 }) else (c.2.sync.1, { a.2 with d := c.2.sync.2 })
def Store.trimmed (S : Store) : Store := { S with table := trimT S.table }
def Store.need (S : Store) : Int := rootNeed S.trimmed.table.length
def Store.taken (S : Store) : List Int × List Int := takes S.need.toNat S.m
def Store.laid (S : Store) : Int × Store := Store.lay { S.trimmed with m := S.taken.2 } S.taken.1
def Store.commit (S : Store) : Int × Store :=
  if S.broken then (13, S) else
  if ((FMap.list S.m 0).length : Int) < S.need then (11, S.trimmed) else
  if 1099511627776 ≤ S.epoch then (3, S.trimmed) else
  if S.laid.1 ≠ 0 then (S.laid.1, { S.laid.2 with broken := true }) else
  (0, { S.laid.2 with m := FMap.commit (leaveAll S.laid.2.m S.parts), old := S.trimmed.table, parts := S.taken.1, epoch := S.epoch + 1, slot := 1 - S.slot })

theorem list_len (m : FMap) (x : Int) : (FMap.list m x).length = List.countP (fun k => k == x) m := by
  unfold FMap.list
  rw [List.length_map, ← List.countP_eq_length_filter]
  have e : m = (List.range m.length).map (fun i => m.getD i 0) := by
    apply List.ext_getElem
    · simp
    · intro i h1 h2
      rw [List.getElem_map, List.getElem_range]
      simp [List.getD, h1]
  conv => rhs; rw [e]
  rw [List.countP_map]
  rfl

theorem Store.Rel.trimmed {S : Store} {r : Ref} (h : S.Rel r) : S.trimmed.Rel r := by
  obtain ⟨h1, h2, -⟩ := trimP_take (fun x : Int => decide (x < 0)) (-1) _ S.table rfl
  refine h.step (D' := S.d) (m' := S.m) (t' := trimT S.table) (now' := r.now) h.up rfl rfl (Nat.le_trans h2 h.ok.tl) (fun x hx => ?_) ?_ h.nl rfl fun _ _ => rfl
  · unfold trimT at hx
    rw [h1] at hx
    exact h.tmem x (List.mem_of_mem_take hx)
  · rw [tabF_trim _ h.ok.lo]
    exact h.core

theorem Ref.trim_eq (l : List RSlot) : Ref.trim l = trimP (fun x => !x.is) l := rfl
theorem Store.Rel.trim_len {S : Store} {r : Ref} (h : S.Rel r) : (trimT S.table).length = r.next.length := by
  unfold Ref.next
  rw [List.length_map, Ref.trim_eq]
  apply trimP_same (fun x : Int => decide (x < 0)) (fun x : RSlot => !x.is) (-1) RSlot.none rfl rfl
  intro i
  have h1 := Ref.nowF_is r.now i
  show decide (tabF S.table i < 0) = !(Ref.slot r.now i).is
  rw [← h1]
  cases hx : Ref.nowF r.now i with
  | none => rw [h.core.now0 i hx]; rfl
  | some x =>
    obtain ⟨n, h2, -⟩ := h.core.now1 i x.1 x.2 hx
    rw [h2]
    simp

theorem Ref.next_slot (r : Ref) (i : Nat) : Ref.slot r.next i = { Ref.slot r.now i with fresh := false } ∨ ((Ref.slot r.next i).is = false ∧ (Ref.slot r.now i).is = false) := by
  obtain ⟨h1, h2, h3, -⟩ := trimP_take (fun x : RSlot => !x.is) RSlot.none _ r.now rfl
  by_cases hi : i < (trimP (fun x : RSlot => !x.is) r.now).length
  · left
    unfold Ref.slot Ref.next
    rw [Ref.trim_eq, List.getD, List.getElem?_map, h1, List.getElem?_take, if_pos hi, List.getD]
    rw [List.getElem?_eq_getElem (by omega)]
    rfl
  · right
    constructor
    · rw [Ref.slot_far]
      · rfl
      · unfold Ref.next
        rw [List.length_map, Ref.trim_eq]
        omega
    · by_cases hl : i < r.now.length
      · have := h3 i (by omega) hl
        simpa [Ref.slot] using this
      · rw [Ref.slot_far (by omega)]; rfl
theorem Ref.next_now (r : Ref) : Ref.nowF r.next = fun i => (Ref.nowF r.now i).map fun x => (false, x.2) := by
  funext i
  unfold Ref.nowF
  rcases Ref.next_slot r i with h | ⟨h1, h2⟩
  · rw [h]
    cases (Ref.slot r.now i).is <;> rfl
  · rw [h1, h2]
    rfl
theorem Ref.next_old (r : Ref) : Ref.oldF r.next = fun i => (Ref.nowF r.now i).map Prod.snd := by
  funext i
  unfold Ref.oldF Ref.nowF
  rcases Ref.next_slot r i with h | ⟨h1, h2⟩
  · rw [h]
    cases (Ref.slot r.now i).is <;> rfl
  · rw [h1, h2]
    rfl
theorem Ref.next_fresh (r : Ref) : ∀ x ∈ r.next, x.fresh = false := by
  intro x hx
  obtain ⟨y, -, rfl⟩ := List.mem_map.1 hx
  rfl

structure LayOk (S : Store) (ids : List Int) (k : Nat) (D' : Disk) : Prop where
  up : D'.Up
  loose : D'.loose.length = S.d.loose.length
  head : D'.now.take 128 = S.d.now.take 128
  other : ∀ x : Nat, (x : Int) ∉ ids → D'.area x = S.d.area x
  part : ∀ (i : Nat) p, ids[i]? = some p → ∃ n : Nat, p = n ∧ pageGet (D'.area n) = (⟨n, S.epoch + 1, 1, pad (putPart S.table (k + i)).1⟩, 0)

theorem layParts_ok : ∀ (ids : List Int) (k : Nat) (S : Store), S.d.Up → S.Ok → ids.Nodup → (∀ p ∈ ids, ∃ n : Nat, p = n ∧ n < S.d.pages) → (∀ i, (putPart S.table i).1.length ≤ 232) → ∃ D', S.layParts ids k = (0, { S with d := D' }) ∧ LayOk S ids k D'
  | [], k, S, hu, _, _, _, _ => ⟨S.d, rfl, hu, rfl, rfl, fun _ _ => rfl, fun i p hp => by simp at hp⟩
  | id :: ids, k, S, hu, hok, hnd, hall, hpl => by
    obtain ⟨hn1, hn2⟩ := List.nodup_cons.1 hnd
    obtain ⟨n, rfl, hn⟩ := hall id (by simp)
    obtain ⟨D1, e1, d1, d2, d3, d4, d5⟩ := Store.put_up hu hok n hn 1 (by omega) (putPart S.table k).1 (hpl k)
    have hp1 := Store.pages_of_loose d2
    have hok1 : Store.Ok { S with d := D1 } := ⟨hok.ep, hok.tl, by show S.m.length = D1.pages; rw [hp1]; exact hok.ml, by show ∀ p ∈ S.table, p < D1.pages; rw [hp1]; exact hok.hi, hok.lo⟩
    obtain ⟨D', e2, i1, i2, i3, i4, i5⟩ := layParts_ok ids (k + 1) { S with d := D1 } d1 hok1 hn2 (fun p hp => by
      obtain ⟨n', h1, h2⟩ := hall p (by simp [hp])
      exact ⟨n', h1, by show n' < D1.pages; rw [hp1]; exact h2⟩) hpl
    refine ⟨D', ?_, i1, i2.trans d2, i3.trans d5, fun x hx => ?_, fun i p hp => ?_⟩
    · unfold Store.layParts
      rw [e1, if_neg (by simp)]
      exact e2
    · rw [List.mem_cons, not_or] at hx
      rw [i4 x hx.2]
      exact d4 x (fun e => hx.1 (by rw [e]))
    · cases i with
      | zero =>
        obtain rfl : (n : Int) = p := by simpa using hp
        refine ⟨n, rfl, ?_⟩
        rw [i4 n hn1]
        exact d3
      | succ i =>
        obtain ⟨n', h1, h2⟩ := i5 i p (by simpa using hp)
        refine ⟨n', h1, ?_⟩
        rw [show k + (i + 1) = k + 1 + i by omega]
        exact h2

theorem area_of_take {D D' : Disk} (h : ∀ i, 128 ≤ i → D'.now[i]? = D.now[i]?) (n : Nat) : D'.area n = D.area n := by
  unfold Disk.area
  apply List.ext_getElem?
  intro i
  rw [List.getElem?_take, List.getElem?_take, List.getElem?_drop, List.getElem?_drop]
  split
  · rw [h _ (by omega)]
  · rfl
theorem sector_lay {L s : Bytes} {i : Nat} (hs : s.length = 64) (hf : 64 * i + 64 ≤ L.length) (j : Nat) : Disk.sector (lay L (64 * i) s) j = if j = i then s else Disk.sector L j := by
  unfold Disk.sector
  by_cases hj : j = i
  · subst hj
    rw [if_pos rfl]
    apply List.ext_getElem?
    intro x
    rw [List.getElem?_take, List.getElem?_drop, lay_get _ _ _ (by omega)]
    by_cases c : x < 64
    · rw [if_pos c, if_pos (by omega)]
      congr 1
      omega
    · rw [if_neg c, List.getElem?_eq_none (by omega)]
  · rw [if_neg hj]
    apply List.ext_getElem?
    intro x
    rw [List.getElem?_take, List.getElem?_take, List.getElem?_drop, List.getElem?_drop, lay_get _ _ _ (by omega)]
    by_cases c : x < 64
    · rw [if_pos c, if_pos c, if_neg (by omega)]
    · rw [if_neg c, if_neg c]

theorem Root.bytes_length (r : Root) (h : r.parts.length ≤ 5) : r.bytes.length = 64 := by
  have hbl : r.body.length = 44 := by
    rw [Root.body_eq, List.length_append, twos_length]
    simp
    omega
  unfold Root.bytes crcLay
  simp [packI_length, crcFour_length, hbl]

theorem Store.lay_eq {S : Store} {parts : List Int} {D1 D2 D3 D4 : Disk} (e1 : S.layParts parts 0 = (0, { S with d := D1 })) (e2 : D1.sync = (0, D2)) (e3 : D2.write (1 - S.slot) (rootPut ⟨S.epoch + 1, S.table.length, parts⟩).1 = (0, D3)) (e4 : D3.sync = (0, D4)) :
    S.lay parts = (0, { S with d := D4 }) := by
  unfold Store.lay
  rw [e1]
  dsimp only
  rw [if_neg (by simp), e2]
  dsimp only
  rw [if_neg (by simp), e3]
  dsimp only
  rw [if_neg (by simp), e4]

set_option maxHeartbeats 1000000 in
theorem Store.Rel.commit {S : Store} {r : Ref} (h : S.Rel r) (hep : S.epoch ≤ 1099511627774) : S.commit.1 = r.commit.1 ∧ S.commit.2.Rel r.commit.2 := by
  have hT := h.trimmed
  have hlen := h.trim_len
  have hfree := h.free
  have hneed : S.need = rootNeed r.next.length := by
    unfold Store.need Store.trimmed
    rw [hlen]
  unfold Store.commit Ref.commit
  rw [if_neg (by rw [h.br]; simp), list_len S.m 0, hneed]
  by_cases hf : r.free < rootNeed r.next.length
  · rw [if_pos (by omega), if_pos hf]
    exact ⟨rfl, hT⟩
  rw [if_neg (by omega), if_neg hf, if_neg (by omega)]
  have htl : (trimT S.table).length ≤ 512 := hT.ok.tl
  obtain ⟨n0, n5⟩ := rootNeed_le (n := (r.next.length : Int)) (by omega) (by omega)
  have htk := takes_ok S.need.toNat S.m (by omega)
  have hids : ∀ p ∈ S.taken.1, ∃ n : Nat, p = n ∧ n < S.d.pages := fun p hp => by
    obtain ⟨n, h1, h2, -⟩ := htk.was p hp
    exact ⟨n, h1, by have := h.core.len; omega⟩
  have hpp := (Disk.pages_le S.d).2
  have hids2 : ∀ p ∈ S.taken.1, 0 ≤ p ∧ p ≤ 1023 := fun p hp => by
    obtain ⟨n, h1, h2⟩ := hids p hp
    omega
  have hmany : S.taken.1.length = S.need.toNat := htk.many
  have htm : ∀ x ∈ trimT S.table, -1 ≤ x ∧ x ≤ 1023 := fun x hx => by
    have h1 := hT.ok.lo x hx
    have h2 : x < S.d.pages := hT.ok.hi x hx
    omega
  have hpl : ∀ i, (putPart (trimT S.table) i).1.length ≤ 232 := fun i => by
    by_cases hi : 116 * i < (trimT S.table).length
    · exact (getPart_of _ i hi htm).2.1
    · unfold putPart
      rw [if_pos]
      · simp
      · unfold rootNeed
        split <;> omega
  -- the disk
  have hokm : Store.Ok { S.trimmed with m := S.taken.2 } := ⟨h.ok.ep, htl, by show S.taken.2.length = S.d.pages; rw [show S.taken.2.length = S.m.length from htk.len]; exact h.ok.ml, hT.ok.hi, hT.ok.lo⟩
  obtain ⟨D1, e1, L1⟩ := layParts_ok S.taken.1 0 { S.trimmed with m := S.taken.2 } h.up hokm htk.nodup hids hpl
  obtain ⟨D2, e2, u2, l2, w2⟩ := Disk.sync_up L1.up
  have hsl := h.rt.sl
  obtain ⟨sl, hsle, hsl2⟩ : ∃ sl : Nat, (1 - S.slot) = sl ∧ sl < 2 := by
    rcases hsl with e | e
    · exact ⟨1, by omega, by omega⟩
    · exact ⟨0, by omega, by omega⟩
  obtain ⟨os, hose, hos2⟩ : ∃ os : Nat, S.slot = os ∧ os < 2 ∧ os ≠ sl := by
    rcases hsl with e | e
    · exact ⟨0, by omega, by omega, by omega⟩
    · exact ⟨1, by omega, by omega, by omega⟩
  have hpos := h.pos
  have hmn : 1 ≤ S.d.many := by have := (Disk.pages_le S.d).1; omega
  have hll := Disk.many_le S.d (n := 0) (by omega)
  have hl1 : D1.loose.length = S.d.loose.length := L1.loose
  have hl2 : D2.loose.length = S.d.loose.length := l2.trans hl1
  have hrlen : ((⟨S.epoch + 1, (trimT S.table).length, S.taken.1⟩ : Root).parts.length : Int) = rootNeed ((trimT S.table).length : Int) := by
    show (S.taken.1.length : Int) = _
    rw [hmany, hneed, hlen]
    omega
  have hright : Root.right ⟨S.epoch + 1, (trimT S.table).length, S.taken.1⟩ = true :=
    Root.right_of ⟨by show 1 ≤ S.epoch + 1; have := h.ep1; omega, by show S.epoch + 1 ≤ _; omega⟩ ⟨by show (0 : Int) ≤ ((trimT S.table).length : Int); omega, by show ((trimT S.table).length : Int) ≤ 512; omega⟩ hrlen hids2 htk.nodup
  have hp5 : S.taken.1.length ≤ 5 := by rw [hmany]; omega
  obtain ⟨D3, e3, u3, l3, w3⟩ := Disk.write_up u2 sl (by omega) (Root.bytes ⟨S.epoch + 1, (trimT S.table).length, S.taken.1⟩)
  obtain ⟨D4, e4, u4, l4, w4⟩ := Disk.sync_up u3
  have hl4 : D4.loose.length = S.d.loose.length := l4.trans (l3.trans hl2)
  have hp4 := Store.pages_of_loose hl4
  have hblen := Root.bytes_length ⟨S.epoch + 1, (trimT S.table).length, S.taken.1⟩ hp5
  have hrput : (rootPut ⟨S.epoch + 1, (trimT S.table).length, S.taken.1⟩).1 = Root.bytes ⟨S.epoch + 1, (trimT S.table).length, S.taken.1⟩ := by
    unfold rootPut
    rw [hright]
    rfl
  have hlaid : S.laid = (0, { S.trimmed with m := S.taken.2, d := D4 }) := by
    refine Store.lay_eq (S := { S.trimmed with m := S.taken.2 }) e1 e2 ?_ e4
    show D2.write (1 - S.slot) (rootPut ⟨S.epoch + 1, (trimT S.table).length, S.taken.1⟩).1 = _
    rw [hrput, hsle]
    exact e3
  rw [hlaid]
  dsimp only
  rw [if_neg (by simp)]
  refine ⟨rfl, ?_⟩
  -- the disk as a whole
  have hnow1 := L1.up.ok.now
  rw [hl1] at hnow1
  have hsec : ∀ j, Disk.sector D4.now j = if j = sl then Root.bytes ⟨S.epoch + 1, (trimT S.table).length, S.taken.1⟩ else Disk.sector D1.now j := fun j => by
    rw [w4, w3, padTo_full hblen, w2]
    exact sector_lay hblen (by omega) j
  have harea : ∀ n, D4.area n = D1.area n := fun n => area_of_take (fun i hi => by
    rw [w4, w3, padTo_full hblen, w2, lay_get _ _ _ (by omega), if_neg (by omega)]) n
  have hshead : ∀ j, j < 2 → Disk.sector D1.now j = Disk.sector S.d.now j := fun j hj => by
    have hh : D1.now.take 128 = S.d.now.take 128 := L1.head
    rw [sector_take _ j hj, hh, ← sector_take _ j hj]
  have hcore := hT.core.commit htk (D' := D4) (fun x hx => by rw [harea]; exact L1.other x hx)
  have hnx : (r.next.length : Int) ≤ 512 := by omega
  refine ⟨⟨⟨by show 0 ≤ S.epoch + 1; have := h.ep1; omega, by show S.epoch + 1 ≤ _; omega⟩, htl, ?_, ?_, hT.ok.lo⟩, u4, by show 1 ≤ D4.pages; rw [hp4]; exact hpos, h.br, by show ((D4.pages : Nat) : Int) = r.many; rw [hp4]; exact h.many, by show S.epoch + 1 = r.epoch + 1; rw [h.ep], by show 1 ≤ S.epoch + 1; have := h.ep1; omega, ?_, by show r.next.length ≤ 512; omega, hlen, by show r.next.length ≤ 512; omega, ?_, ?_, ?_⟩
  · show (FMap.commit (leaveAll S.taken.2 S.parts)).length = D4.pages
    rw [hp4]
    exact hcore.len
  · show ∀ p ∈ trimT S.table, p < D4.pages
    rw [hp4]
    exact hT.ok.hi
  · show Core D4.pages (FMap.commit (leaveAll S.taken.2 S.parts)) D4 (S.epoch + 1) (tabF (trimT S.table)) (tabF (trimT S.table)) S.taken.1 (Ref.nowF r.next) (Ref.oldF r.next)
    rw [hp4, Ref.next_now, Ref.next_old]
    exact hcore
  · show ∀ p ∈ trimT S.table, -1 ≤ p ∧ p < D4.pages
    rw [hp4]
    exact hT.tmem
  · exact hrlen
  · refine ⟨?_, ?_, fun x hx => ?_, fun i p hp => ?_⟩
    · show 1 - S.slot = 0 ∨ 1 - S.slot = 1
      omega
    · show rootGet (Disk.sector D4.now (1 - S.slot).toNat) = some ⟨S.epoch + 1, (trimT S.table).length, S.taken.1⟩
      rw [hsle, Int.toNat_natCast, hsec, if_pos rfl]
      exact rootGet_bytes _ hright ⟨by show 1 ≤ S.epoch + 1; have := h.ep1; omega, by show S.epoch + 1 ≤ _; omega⟩ ⟨by show (0 : Int) ≤ ((trimT S.table).length : Int); omega, by show ((trimT S.table).length : Int) ≤ 512; omega⟩ hp5 hids2
    · have hx' : rootGet (Disk.sector D4.now (1 - (1 - S.slot)).toNat) = some x := hx
      rw [show 1 - (1 - S.slot) = (os : Int) by omega, Int.toNat_natCast, hsec, if_neg hos2.2, hshead os hos2.1] at hx'
      have := h.rt.here
      rw [hose, Int.toNat_natCast, hx'] at this
      have e : x = ⟨S.epoch, S.old.length, S.parts⟩ := by simpa using this
      rw [e]
      show S.epoch < S.epoch + 1
      omega
    · obtain ⟨n, h1, h2⟩ := L1.part i p hp
      have hp' : S.taken.1[i]? = some p := hp
      have hi : 116 * i < (trimT S.table).length := by
        have h3 := (List.getElem?_eq_some_iff.1 hp').1
        have h4 : (S.taken.1.length : Int) = rootNeed ((trimT S.table).length : Int) := hrlen
        unfold rootNeed at h4
        split at h4 <;> omega
      have hg := getPart_of (trimT S.table) i hi htm
      refine ⟨n, S.epoch + 1, pad (putPart (trimT S.table) i).1, h1, Int.le_refl _, ?_, hg.2.2⟩
      show pageGet (D4.area n) = _
      rw [harea]
      rw [Nat.zero_add] at h2
      exact h2

end Go.Proofs.YtjbpdgknhbnfgaaGreat

namespace Go.Proofs.YtjbpdgknhbnfgaaGreat
open Go.RowKit
set_option maxRecDepth 100000

/-- the state while lay lays the parts -/
structure LaySt (w wr : World) (b : StoreB) (S : Store) (D : Disk) (x r : Nat) (pv : Value) (parts : List Int) : Prop where
  st : StoreAt wr b { S with d := D }
  up : D.Up
  loose : D.loose.length = S.d.loose.length
  chg : Chg b.d.set w wr
  box : Blk wr x 24 [ptrV b.s]
  res : Blk wr r 41 [intV 0]
  pv : Own wr 3 1 pv parts.length (ints parts)

theorem LaySt.on0 {w wr w2 : World} {b : StoreB} {S : Store} {D : Disk} {x r : Nat} {pv : Value} {parts : List Int} (h : LaySt w wr b S D x r pv parts) (hc : Chg [] wr w2) : LaySt w w2 b S D x r pv parts :=
  ⟨h.st.kept hc (by simp), h.up, h.loose, h.chg.trans0 hc, h.box.kept hc (by simp), h.res.kept hc (by simp), h.pv.kept hc (by simp)⟩
theorem LaySt.onD {w wr w2 : World} {b : StoreB} {S : Store} {D D' : Disk} {x r : Nat} {pv : Value} {parts : List Int} (h : LaySt w wr b S D x r pv parts) (hc : Chg b.d.set wr w2) (hxb : x ∉ b.d.set) (hrb : r ∉ b.d.set) (hpb : ∀ k ∈ ownBlk pv, k ∉ b.d.set)
    (h1 : StoreAt w2 b { S with d := D' }) (h2 : D'.Up) (h3 : D'.loose.length = D.loose.length) : LaySt w w2 b S D' x r pv parts :=
  ⟨h1, h2, h3.trans h.loose, h.chg.trans1 hc, h.box.kept hc hxb, h.res.kept hc hrb, h.pv.kept hc hpb⟩
theorem LaySt.onDisk {w wr w2 : World} {b : StoreB} {S : Store} {D D' : Disk} {x r : Nat} {pv : Value} {parts : List Int} (h : LaySt w wr b S D x r pv parts) (hd : DiskAt w2 b.d D') (hc : Chg b.d.set wr w2) (hxb : x ∉ b.d.set) (hrb : r ∉ b.d.set) (hpb : ∀ k ∈ ownBlk pv, k ∉ b.d.set)
    (h2 : D'.Up) (h3 : D'.loose.length = D.loose.length) : LaySt w w2 b S D' x r pv parts :=
  h.onD hc hxb hrb hpb (h.st.onD hd hc) h2 h3
theorem Store.Ok.onD {S : Store} (h : S.Ok) {D : Disk} (hl : D.loose.length = S.d.loose.length) : Store.Ok { S with d := D } := by
  have hp := Store.pages_of_loose hl
  exact ⟨h.ep, h.tl, by show S.m.length = D.pages; rw [hp]; exact h.ml, by show ∀ p ∈ S.table, p < D.pages; rw [hp]; exact h.hi, h.lo⟩

set_option maxHeartbeats 2000000 in
theorem store_lay_ok {w : World} {b : StoreB} {S : Store} (h : StoreAt w b S) (hok : S.Ok) (hu : S.d.Up) (parts : List Int) {pv : Value} (hp : Own w 3 1 pv parts.length (ints parts)) (hpn : ∀ k ∈ ownBlk pv, k ∉ b.set)
    (hids : ∀ p ∈ parts, ∃ n : Nat, p = n ∧ n < S.d.pages) (hr : Root.right ⟨S.epoch + 1, S.table.length, parts⟩ = true) (hsl : S.slot = 0 ∨ S.slot = 1) (h2 : 2 ≤ S.d.loose.length) {D1 D2 D3 D4 : Disk}
    (e1 : S.layParts parts 0 = (0, { S with d := D1 })) (e2 : D1.sync = (0, D2)) (e3 : D2.write (1 - S.slot) (rootPut ⟨S.epoch + 1, S.table.length, parts⟩).1 = (0, D3)) (e4 : D3.sync = (0, D4)) :
    Calls Tryz.prog 105 #[ptrV b.s, pv] w fun e w' => e = .returned (intV 0) ∧ StoreAt w' b { S with d := D4 } ∧ Chg b.d.set w w' := by
  have hmf : ∀ (fn : Fn) (first cap : Array Value) (w : World), (Instr.makeFunc fn first cap).run Tryz.prog w = .ok (.func fn first cap) w := fun _ _ _ _ => rfl
  obtain ⟨ad, c, rfl, hnc, hcm⟩ := hp.shape
  have h5 : parts.length ≤ 5 := (Root.right_facts hr).2.2.2.2.2.1
  have HH := Lib.hid h
  have HOK := Lib.hid hok
  have HU := Lib.hid hu
  have HP := Lib.hid hp
  have HPN := Lib.hid hpn
  have HIDS := Lib.hid hids
  have HR := Lib.hid hr
  have HSL := Lib.hid hsl
  have E1 := Lib.hid e1
  have E2 := Lib.hid e2
  have E3 := Lib.hid e3
  have E4 := Lib.hid e4
  clear h hok hu hp hpn hids hr hsl e1 e2 e3 e4
  go_enter_defers Tryz.func105, Tryz.ntmps105
  go_wp2_with fail
  have hxb : w.heap.size ∉ b.set := fun hm => absurd (HH.out.lt _ hm) (Nat.lt_irrefl _)
  have hrb : w.heap.size + 1 ∉ b.set := fun hm => absurd (HH.out.lt _ hm) (by omega)
  have HXB : Hid (w.heap.size ∉ b.d.set) := Lib.hid (fun hm => hxb (d_sub b _ hm))
  have HRB : Hid (w.heap.size + 1 ∉ b.d.set) := Lib.hid (fun hm => hrb (d_sub b _ hm))
  have HPB : Hid (∀ k ∈ ownBlk (.slice ad parts.length c), k ∉ b.d.set) := Lib.hid (fun k hk hm => HPN.out k hk (d_sub b _ hm))
  have HCW : Hid (Chg [] w ((w.alloc (.cells #[ptrV b.s] 24)).alloc (.cells #[.int .i64 0] 41))) := Lib.hid (((Chg.refl _ _).alloc _).alloc _)
  have L0 : Hid (LaySt w ((w.alloc (.cells #[ptrV b.s] 24)).alloc (.cells #[.int .i64 0] 41)) b S S.d w.heap.size (w.heap.size + 1) (.slice ad parts.length c) parts) := Lib.hid
    ⟨HH.out.kept HCW.out (by simp), HU.out, rfl, HCW.out.mono (by simp), (Blk.new w _ _).alloc _, by have := Blk.new (w.alloc (.cells #[ptrV b.s] 24)) 41 [.int .i64 0]; simpa using this, HP.out.kept HCW.out (by simp)⟩
  clear hxb hrb HCW
  go_loopw [14] (fun i wr => ∃ (k : Nat) (D : Disk), k ≤ parts.length ∧ i = .int .i64 k ∧ S.layParts parts 0 = Store.layParts { S with d := D } (parts.drop k) k ∧ LaySt w wr b S D w.heap.size (w.heap.size + 1) (.slice ad parts.length c) parts) (fun i _ => parts.length - (intOf i).toNat)
  case atStart => exact ⟨0, S.d, Nat.zero_le _, rfl, rfl, L0.out⟩
  case round =>
    obtain ⟨k, D, hk, rfl, hlp, hL⟩ := hrel
    have HLP := Lib.hid hlp
    have HL := Lib.hid hL
    clear hlp hL L0
    by_cases hlt : k < parts.length
    · obtain ⟨n, hn1, hn2⟩ := HIDS.out parts[k] (List.getElem_mem hlt)
      obtain ⟨-, -, -, -, hpr, -, -⟩ := Root.right_facts HR.out
      replace hpr : (parts.length : Int) = rootNeed S.table.length := hpr
      have hkr : (k : Int) < rootNeed S.table.length := by omega
      have hpgs : D.pages = S.d.pages := Store.pages_of_loose HL.out.loose
      have hokD := HOK.out.onD HL.out.loose
      obtain ⟨g, c', cur, hv, -⟩ := HL.out.pv.pos (by omega)
      simp only [Value.slice.injEq] at hv
      obtain ⟨rfl, -, rfl⟩ := hv
      obtain ⟨c0, z0⟩ := HL.out.pv.cell rfl hlt
      rw [ints_get, List.getElem?_eq_getElem hlt, hn1] at c0
      simp only [Option.map_some] at c0
      have hpp := (Disk.pages_le S.d).2
      have hT : ∀ x ∈ S.table, x ≤ 1023 := fun x hx => by have := HOK.out.hi x hx; omega
      have hpl : (putPart S.table k).1.length ≤ 232 := by
        rw [putPart_ok hkr hT]
        show (partBytes _).length ≤ 232
        rw [partBytes_length]
        unfold partRows
        rw [List.length_take]
        omega
      obtain ⟨D', ep, d1, d2, -⟩ := Store.put_up (S := { S with d := D }) HL.out.up hokD n (by show n < D.pages; omega) 1 (by omega) (putPart S.table k).1 hpl
      have HCL := Lib.hid (fun (w' : World) (h' : LaySt w w' b S D w.heap.size (w.heap.size + 1) (.slice (some ⟨g, 0, none⟩) parts.length c) parts) => lay_part h'.st hokD w.heap.size (h'.box.cell 0) k hkr (by show D.pages ≤ 1024; omega))
      have HPUT := Lib.hid (fun (w' : World) (h' : LaySt w w' b S D w.heap.size (w.heap.size + 1) (.slice (some ⟨g, 0, none⟩) parts.length c) parts) => by
        have := store_put h'.st hokD n (by show n < D.pages; omega) 1 (by omega) (putPart S.table k).1 hpl
        rw [ep] at this
        exact this)
      have HNX : Hid (S.layParts parts 0 = Store.layParts { S with d := D' } (parts.drop (k + 1)) (k + 1)) := Lib.hid (by
        rw [HLP.out, List.drop_eq_getElem_cons hlt, hn1, Store.layParts]
        have ep2 : Store.put { S with d := D } (n : Int) 1 (putPart ({ S with d := D } : Store).table k).1 = (0, { S with d := D' }) := ep
        rw [ep2]
        rw [if_neg (by simp)])
      have hltI : (k : Int) < (parts.length : Int) := by omega
      have L1 := Lib.hid (HL.out.on0 ((Chg.refl [] wr).drew))
      have q1 : wr.drew.cell? ⟨w.heap.size, 0, none⟩ = some (ptrV b.s) := L1.out.box.cell 0
      have D1U := Lib.hid d1
      have D2L := Lib.hid d2
      clear z0 hpp hT hpl ep hpgs hokD hkr hpr hn2 hn1 d1 d2 hk
      generalize (putPart S.table k).1 = pl at *
      go_wp2_with fail
      go_region_held3 (fun w' => w'.cell? ⟨w.heap.size, 0, none⟩ = some (ptrV b.s))
        (first | exact q1 | exact q2 | exact q3)
        (first
        | (go_at_call 165; (with_reducible refine (HCL.out _ L1.out).mono ?_); rintro e w2 ⟨rfl, hc2⟩; have L2 := Lib.hid (L1.out.on0 hc2); have q2 : w2.cell? ⟨w.heap.size, 0, none⟩ = some (ptrV b.s) := L2.out.box.cell 0; clear hc2)
        | (go_at_call 100; (with_reducible refine (HPUT.out _ L2.out).mono ?_); rintro e w3 ⟨rfl, h3, hc3⟩; have L3 := Lib.hid (L2.out.onD hc3 HXB.out HRB.out HPB.out h3 D1U.out D2L.out); have q3 : w3.cell? ⟨w.heap.size, 0, none⟩ = some (ptrV b.s) := L3.out.box.cell 0; clear h3 hc3)
        | (go_at_call 167; (with_reducible refine (shadow_must_ok _).mono ?_); rintro e w4 ⟨rfl, rfl⟩))
      go_wp2_with fail
      go_roundw
      case rel => exact ⟨k + 1, D', by omega, by go_num, HNX.out, L3.out⟩
      case measure => simp [intOf]; omega
    · obtain rfl : k = parts.length := by omega
      have hD : D = D1 := by
        have h1 := HLP.out
        rw [List.drop_length, E1.out, Store.layParts] at h1
        have h2 := congrArg (fun r => r.2.d) h1
        exact h2.symm
      subst hD
      clear hk hlt HLP
      -- the sync
      obtain ⟨D2', e2', u2, l2, -⟩ := Disk.sync_up HL.out.up
      obtain rfl : D2' = D2 := by have := E2.out; rw [e2'] at this; exact (Prod.mk.inj this).2
      obtain ⟨sl, hsle, hsl2⟩ : ∃ sl : Nat, (1 - S.slot) = sl ∧ sl < 2 := by
        rcases HSL.out with e | e
        · exact ⟨1, by omega, by omega⟩
        · exact ⟨0, by omega, by omega⟩
      have e3' := E3.out
      rw [hsle] at e3'
      obtain ⟨D3', e3'', u3, l3, -⟩ := Disk.write_up u2 sl (by have := HL.out.loose; omega) (rootPut ⟨S.epoch + 1, S.table.length, parts⟩).1
      obtain rfl : D3' = D3 := by rw [e3''] at e3'; exact (Prod.mk.inj e3').2
      obtain ⟨D4', e4', u4, l4, -⟩ := Disk.sync_up u3
      obtain rfl : D4' = D4 := by have := E4.out; rw [e4'] at this; exact (Prod.mk.inj this).2
      have hrt : rootPut ⟨S.epoch + 1, S.table.length, parts⟩ = (Root.bytes ⟨S.epoch + 1, S.table.length, parts⟩, 0) := rootPut_yes HR.out
      rw [hrt] at e3''
      have HS1 := Lib.hid (fun (w' : World) (h' : LaySt w w' b S D w.heap.size (w.heap.size + 1) (.slice ad parts.length c) parts) => by
        have := disk_sync (D := D) h'.st.d
        rw [e2'] at this
        exact this)
      have HRP := Lib.hid (fun (w' : World) (h' : LaySt w w' b S D2' w.heap.size (w.heap.size + 1) (.slice ad parts.length c) parts) => by
        have := root_put_yes (r := ⟨S.epoch + 1, S.table.length, parts⟩) h'.pv HR.out
        rw [hrt] at this
        exact this)
      have HWR := Lib.hid (fun (w' : World) (h' : LaySt w w' b S D2' w.heap.size (w.heap.size + 1) (.slice ad parts.length c) parts) => by
        have := disk_write (D := D2') h'.st.d sl (Root.bytes ⟨S.epoch + 1, S.table.length, parts⟩)
        rw [e3''] at this
        exact this)
      have HS3 := Lib.hid (fun (w' : World) (h' : LaySt w w' b S D3' w.heap.size (w.heap.size + 1) (.slice ad parts.length c) parts) => by
        have := disk_sync (D := D3') h'.st.d
        rw [e4'] at this
        exact this)
      have U2 := Lib.hid u2
      have U3 := Lib.hid u3
      have U4 := Lib.hid u4
      have LL2 := Lib.hid l2
      have LL3 := Lib.hid l3
      have LL4 := Lib.hid l4
      have hepb := HOK.out.ep
      have hw1 : IntKind.i64.wrap (S.epoch + 1) = S.epoch + 1 := IntWalk.i64_in _ (by omega)
      have hw2 : IntKind.i64.wrap (1 - S.slot) = (sl : Int) := by rw [hsle]; exact IntWalk.i64_in _ (by omega)
      obtain ⟨ta, tc, htv, -, -⟩ := HH.out.t.shape
      have HTV := Lib.hid htv
      have HCELLS : Hid (∀ (w' : World) (D' : Disk), LaySt w w' b S D' w.heap.size (w.heap.size + 1) (.slice ad parts.length c) parts → w'.cell? ⟨w.heap.size, 0, none⟩ = some (ptrV b.s) ∧ w'.cell? ⟨b.s, 0, none⟩ = some (ptrV b.d.d) ∧ w'.cell? ⟨b.s, 2, none⟩ = some (.slice ta S.table.length tc) ∧ w'.cell? ⟨b.s, 5, none⟩ = some (intV S.epoch) ∧ w'.cell? ⟨b.s, 6, none⟩ = some (intV S.slot)) := Lib.hid (fun w' D' h' => by
        refine ⟨h'.box.cell 0, h'.st.st.cell 0, ?_, h'.st.st.cell 5, h'.st.st.cell 6⟩
        rw [← htv]
        exact h'.st.st.cell 2)
      have hnm : S.table.length ≤ 512 := HOK.out.tl
      clear e2' e3' e3'' e4' u2 u3 u4 l2 l3 l4 hsle htv hrt
      generalize S.epoch = ep at *
      generalize S.slot = slo at *
      generalize S.table.length = tn at *
      generalize Root.bytes ⟨ep + 1, tn, parts⟩ = rb at *
      obtain ⟨x1, x2, -⟩ := HCELLS.out _ _ HL.out
      go_wp2_with (first
        | (go_at_call 98; (with_reducible refine (HS1.out _ HL.out).mono ?_); rintro e w2 ⟨rfl, hd2, hc2⟩; have L2 := Lib.hid (HL.out.onDisk hd2 hc2 HXB.out HRB.out HPB.out U2.out LL2.out); clear hd2 hc2)
        | (go_at_call 167; (with_reducible refine (shadow_must_ok _).mono ?_); rintro e w4 ⟨rfl, rfl⟩))
      have L2d := Lib.hid (L2.out.on0 ((Chg.refl [] w2).drew))
      obtain ⟨y1, -, y3, y4, -⟩ := HCELLS.out _ _ L2d.out
      go_region_held3 (fun w' => w'.cell? ⟨w.heap.size, 0, none⟩ = some (ptrV b.s) ∧ w'.cell? ⟨b.s, 2, none⟩ = some (.slice ta tn tc) ∧ w'.cell? ⟨b.s, 5, none⟩ = some (intV ep))
        (first | exact ⟨y1, y3, y4⟩ | exact ⟨z1, z3, z4⟩)
        (first
        | (go_at_call 97; (with_reducible refine (HRP.out _ L2d.out).mono ?_); rintro e w3 ⟨rfl, hc3⟩; have L3 := Lib.hid (L2d.out.on0 hc3); obtain ⟨z1, z2, z3, z4, z5⟩ := HCELLS.out _ _ L3.out; clear hc3))
      go_wp2_with fail
      have L3d := Lib.hid (L3.out.on0 ((Chg.refl [] w3).drew))
      obtain ⟨p1, p2, -, -, p5⟩ := HCELLS.out _ _ L3d.out
      go_region_held3 (fun w' => w'.cell? ⟨w.heap.size, 0, none⟩ = some (ptrV b.s) ∧ w'.cell? ⟨b.s, 0, none⟩ = some (ptrV b.d.d) ∧ w'.cell? ⟨b.s, 6, none⟩ = some (intV slo))
        (first | exact ⟨p1, p2, p5⟩ | exact ⟨r1, r2, r5⟩)
        (first
        | (go_at_call 37; (with_reducible refine (HWR.out _ L3d.out).mono ?_); rintro e w4 ⟨rfl, hd4, hc4⟩; have L4 := Lib.hid (L3d.out.onDisk hd4 hc4 HXB.out HRB.out HPB.out U3.out LL3.out); obtain ⟨r1, r2, r3, r4, r5⟩ := HCELLS.out _ _ L4.out; clear hd4 hc4)
        | (go_at_call 167; (with_reducible refine (shadow_must_ok _).mono ?_); rintro e w5 ⟨rfl, rfl⟩))
      go_wp2_with (first
        | (go_at_call 98; (with_reducible refine (HS3.out _ L4.out).mono ?_); rintro e w6 ⟨rfl, hd6, hc6⟩; have L6 := Lib.hid (L4.out.onDisk hd6 hc6 HXB.out HRB.out HPB.out U4.out LL4.out); have t1 : w6.cell? ⟨w.heap.size + 1, 0, none⟩ = some (intV 0) := L6.out.res.cell 0; have t2 := L6.out.res.free 0; clear hd6 hc6)
        | (go_at_call 167; (with_reducible refine (shadow_must_ok _).mono ?_); rintro e w5 ⟨rfl, rfl⟩))
      refine leaves_cons (f := 164) (args := #[.pointer (some ⟨w.heap.size + 1, 0, none⟩)]) (by simp) (by simp [go_sem]) ?_
      refine (lay_catch_idle ⟨w.heap.size + 1, 0, none⟩ _).mono ?_
      rintro e u' w'' ⟨rfl, rfl, rfl⟩
      have L7 : (w6.setCell ⟨w.heap.size + 1, 0, none⟩ (.int .i64 0)).cell? ⟨w.heap.size + 1, 0, none⟩ = some (.int .i64 0) := (L6.out.res.set 0 (intV 0)).cell 0
      have hC : Chg [w.heap.size + 1] w6 (w6.setCell ⟨w.heap.size + 1, 0, none⟩ (intV 0)) := (Chg.refl _ _).setCell _ _ (.inl (by simp))
      have hrs : w.heap.size + 1 ∉ b.set := fun hm => absurd (HH.out.lt _ hm) (by omega)
      simp [Leaves, settle, results, Tryz.results105, go_sem, L7]
      exact ⟨L6.out.st.kept hC (fun k hk hm => by simp at hm; subst hm; exact hrs hk), L6.out.chg.trans hC (fun g hg => by simp at hg; subst hg; exact .inr (by omega))⟩

end Go.Proofs.YtjbpdgknhbnfgaaGreat
