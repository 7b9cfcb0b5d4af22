/- A part of the walks of the program's functions, each a contract that its caller uses; no condition but what each theorem names. What a Hold that went well leaves, as plain Lean. Plain Lean: a pool at rest over a store that was never committed. Plain Lean: chains of pages. The walks of the pool's with (of Get's closure) and Get, over a pool at rest. The walks of the pool's Drop and New (of a page), over a pool at rest. Steps of a region that draws its order: a call, an append; the walk of pool.New. The walk of pool.New. The walk of the reference's New of a pool. -/
import Derived.Test.YtjbpdgknhbnfgaaGreatM12

namespace Go.Proofs.YtjbpdgknhbnfgaaGreat

theorem Pool.round_pages : ∀ (k : Nat) (Q : Pool), Q.hand < Q.l.length → (Q.round k).2.l.map Frame.page = Q.l.map Frame.page ∧ (Q.round k).2.l.map Frame.held = Q.l.map Frame.held ∧ (Q.round k).2.l.map Frame.payload = Q.l.map Frame.payload
  | 0, Q, _ => ⟨rfl, rfl, rfl⟩
  | k + 1, Q, h => by
    unfold Pool.round
    have hn : Q.next.hand < Q.next.l.length := Nat.mod_lt _ (by show 0 < Q.l.length; omega)
    split
    · exact Pool.round_pages k Q.next hn
    · split
      · have ih := Pool.round_pages k { Q.next with l := Q.l.set Q.hand { Q.l.getD Q.hand Frame.empty with used := false } } (by rw [List.length_set]; exact hn)
        obtain ⟨i1, i2, i3⟩ := ih
        rw [Pool.getD_hand h] at i1 i2 i3
        rw [Pool.getD_hand h]
        refine ⟨i1.trans (pages_set _ _ h _ rfl), i2.trans ?_, i3.trans ?_⟩
        · apply List.ext_getElem
          · simp
          · intro j h1 h2
            simp only [List.getElem_map, List.getElem_set]
            split
            · rename_i e; subst e; rfl
            · rfl
        · apply List.ext_getElem
          · simp
          · intro j h1 h2
            simp only [List.getElem_map, List.getElem_set]
            split
            · rename_i e; subst e; rfl
            · rfl
      · exact ⟨rfl, rfl, rfl⟩

theorem Pool.victim_pages (Q : Pool) (h : Q.hand < Q.l.length) : Q.victim.2.l.map Frame.page = Q.l.map Frame.page ∧ Q.victim.2.l.map Frame.held = Q.l.map Frame.held ∧ Q.victim.2.l.map Frame.payload = Q.l.map Frame.payload := by
  unfold Pool.victim
  split
  · exact ⟨rfl, rfl, rfl⟩
  · split
    · exact ⟨rfl, rfl, rfl⟩
    · exact Pool.round_pages _ Q h

end Go.Proofs.YtjbpdgknhbnfgaaGreat

namespace Go.Proofs.YtjbpdgknhbnfgaaGreat

structure Pool.View (Q : Pool) (A : List (Option Bytes)) (f : Nat) : Prop where
  st : Q.s.View A f
  hand : Q.hand < Q.l.length
  idle : ∀ fr ∈ Q.l, fr.held = 0 ∧ fr.dirty = false
  page : ∀ fr ∈ Q.l, fr.page < 0 ∨ lookup A fr.page = some fr.payload
  inj : ∀ (i j : Nat) (p : Int), (Q.l.map Frame.page)[i]? = some p → (Q.l.map Frame.page)[j]? = some p → 0 ≤ p → i = j

theorem Pool.View.clean {Q : Pool} {A : List (Option Bytes)} {f : Nat} (h : Q.View A f) : Q.Clean := fun fr hf => (h.idle fr hf).2
theorem Pool.View.heldOk {Q : Pool} {A : List (Option Bytes)} {f : Nat} (h : Q.View A f) : Q.Held := fun fr hf => by
  have := (h.idle fr hf).1
  omega

/-- The one frame that has page p. -/
theorem Pool.find_only {Q : Pool} {i : Nat} {p : Int} (hinj : ∀ (i j : Nat) (p : Int), (Q.l.map Frame.page)[i]? = some p → (Q.l.map Frame.page)[j]? = some p → 0 ≤ p → i = j)
    (h : (Q.l.map Frame.page)[i]? = some p) (h0 : 0 ≤ p) : Q.find p = i := by
  have hi : i < Q.l.length := by
    have := (List.getElem?_eq_some_iff.1 h).1
    simpa using this
  have hp : Q.l[i].page = p := by
    rw [List.getElem?_map, List.getElem?_eq_getElem hi] at h
    simpa using h
  have hlt : Q.l.findIdx (fun f => f.page == p) < Q.l.length := by
    apply List.findIdx_lt_length_of_exists
    exact ⟨Q.l[i], List.getElem_mem hi, by simpa using hp⟩
  have hw := List.findIdx_getElem (w := hlt)
  have hw' : Q.l[Q.l.findIdx (fun f => f.page == p)].page = p := by simpa using hw
  have he := hinj i _ p h (by rw [List.getElem?_map, List.getElem?_eq_getElem hlt]; simp [hw']) h0
  unfold Pool.find idxWhere
  rw [if_neg (by omega), if_pos hlt, ← he]

theorem Pool.View.find_hit {Q : Pool} {A : List (Option Bytes)} {f : Nat} (h : Q.View A f) {l : Int} (hf : 0 ≤ Q.find l) :
    ∃ (i : Nat) (hi : i < Q.l.length), Q.find l = i ∧ Q.l[i].page = l ∧ 0 ≤ l ∧ lookup A l = some Q.l[i].payload := by
  obtain ⟨i, h1, hi, h2⟩ := Pool.find_pos hf
  have hl : 0 ≤ l := by
    unfold Pool.find at hf
    split at hf
    · omega
    · omega
  refine ⟨i, hi, h1, h2, hl, ?_⟩
  rcases h.page _ (List.getElem_mem hi) with h3 | h3
  · omega
  · rw [h2] at h3
    exact h3

theorem map_set_same {α β : Type} (g : α → β) (L : List α) (i : Nat) (hi : i < L.length) (x : α) (hx : g x = g L[i]) : (L.set i x).map g = L.map g := by
  rw [List.map_set, hx]
  apply List.ext_getElem
  · simp
  · intro j h1 h2
    rw [List.getElem_set]
    split
    · rename_i e
      subst e
      simp
    · rfl

theorem Pool.View.touch {Q : Pool} {A : List (Option Bytes)} {f : Nat} (h : Q.View A f) (i : Nat) (hi : i < Q.l.length) (x : Frame) (hp : x.page = Q.l[i].page) (hb : x.payload = Q.l[i].payload) (h0 : x.held = 0) (hd : x.dirty = false) :
    Pool.View { Q with l := Q.l.set i x } A f := by
  refine ⟨h.st, by simpa using h.hand, fun fr hf => ?_, fun fr hf => ?_, ?_⟩
  · rcases List.mem_or_eq_of_mem_set hf with h1 | h1
    · exact h.idle fr h1
    · subst h1; exact ⟨h0, hd⟩
  · rcases List.mem_or_eq_of_mem_set hf with h1 | h1
    · exact h.page fr h1
    · subst h1
      rw [hp, hb]
      exact h.page _ (List.getElem_mem hi)
  · show ∀ (i' j : Nat) (p : Int), ((Q.l.set i x).map Frame.page)[i']? = some p → ((Q.l.set i x).map Frame.page)[j]? = some p → 0 ≤ p → i' = j
    rw [map_set_same Frame.page Q.l i hi x hp]
    exact h.inj

/-! the victim -/
theorem countP_used_set (L : List Frame) (i : Nat) (hi : i < L.length) (hu : L[i].used = true) (x : Frame) (hx : x.used = false) : List.countP Frame.used (L.set i x) + 1 = List.countP Frame.used L := by
  induction L generalizing i with
  | nil => simp at hi
  | cons f L ih =>
    cases i with
    | zero =>
      have hu' : f.used = true := hu
      simp [hu', hx]
    | succ i =>
      have := ih i (by simpa using hi) (by simpa using hu)
      simp only [List.set_cons_succ, List.countP_cons]
      omega

theorem Pool.round_found : ∀ (k : Nat) (Q : Pool), Q.hand < Q.l.length → (∀ fr ∈ Q.l, fr.held = 0) → List.countP Frame.used Q.l < k → 0 ≤ (Q.round k).1
  | 0, _, _, _, hk => absurd hk (by omega)
  | k + 1, Q, h, h0, hk => by
    unfold Pool.round
    have hn : Q.next.hand < Q.next.l.length := Nat.mod_lt _ (by show 0 < Q.l.length; omega)
    rw [Pool.getD_hand h]
    have hh := h0 _ (List.getElem_mem h)
    rw [if_neg (by omega)]
    split
    · rename_i hu
      have hc := countP_used_set Q.l Q.hand h hu { Q.l[Q.hand] with used := false } rfl
      refine Pool.round_found k { Q.next with l := Q.l.set Q.hand { Q.l[Q.hand] with used := false } } (by rw [List.length_set]; exact hn) (fun fr hf => ?_) ?_
      · rcases List.mem_or_eq_of_mem_set hf with h1 | h1
        · exact h0 fr h1
        · subst h1; exact hh
      · show List.countP Frame.used (Q.l.set Q.hand _) < k
        omega
    · show (0 : Int) ≤ (Q.hand : Int)
      omega

theorem Pool.round_hand : ∀ (k : Nat) (Q : Pool), Q.hand < Q.l.length → (Q.round k).2.hand < (Q.round k).2.l.length
  | 0, Q, h => h
  | k + 1, Q, h => by
    unfold Pool.round
    have hn : Q.next.hand < Q.next.l.length := Nat.mod_lt _ (by show 0 < Q.l.length; omega)
    split
    · exact Pool.round_hand k Q.next hn
    · split
      · exact Pool.round_hand k { Q.next with l := Q.l.set Q.hand { Q.l.getD Q.hand Frame.empty with used := false } } (by rw [List.length_set]; exact hn)
      · exact hn
theorem Pool.victim_hand (Q : Pool) (h : Q.hand < Q.l.length) : Q.victim.2.hand < Q.victim.2.l.length := by
  unfold Pool.victim
  split
  · exact h
  · split
    · exact h
    · exact Pool.round_hand _ Q h

theorem Pool.View.victim {Q : Pool} {A : List (Option Bytes)} {f : Nat} (h : Q.View A f) :
    ∃ (i : Nat) (V : Pool), Q.victim = ((i : Int), V) ∧ i < V.l.length ∧ V.View A f ∧ V.l.map Frame.page = Q.l.map Frame.page := by
  obtain ⟨k1, k2, k3, k4⟩ := Pool.victim_keeps Q h.hand h.clean
  obtain ⟨p1, p2, p3⟩ := Pool.victim_pages Q h.hand
  have hh := Pool.victim_hand Q h.hand
  have hpos : 0 ≤ Q.victim.1 := by
    unfold Pool.victim
    split
    · rename_i h0
      exact h0
    · split
      · rename_i h1
        exfalso
        have : Q.l.findIdx (fun f => f.held == 0) < Q.l.length := by
          apply List.findIdx_lt_length_of_exists
          exact ⟨Q.l[Q.hand]'h.hand, List.getElem_mem h.hand, by simpa using (h.idle _ (List.getElem_mem h.hand)).1⟩
        unfold idxWhere at h1
        rw [if_pos this] at h1
        omega
      · apply Pool.round_found _ _ h.hand (fun fr hf => (h.idle fr hf).1)
        have := List.countP_le_length (p := Frame.used) (l := Q.l)
        have := h.hand
        omega
  generalize Q.victim = vv at *
  obtain ⟨vi, V⟩ := vv
  dsimp only at *
  refine ⟨vi.toNat, V, ?_, by omega, ⟨by rw [k1]; exact h.st, hh, fun fr hf => ⟨?_, k3 fr hf⟩, fun fr hf => ?_, by rw [p1]; exact h.inj⟩, p1⟩
  · rw [Int.toNat_of_nonneg hpos]
  · have : fr.held ∈ V.l.map Frame.held := List.mem_map_of_mem hf
    rw [p2, List.mem_map] at this
    obtain ⟨g, hg, e⟩ := this
    rw [← e]
    exact (h.idle g hg).1
  · obtain ⟨j, hj⟩ := List.mem_iff_getElem?.1 hf
    have e1 : (V.l.map Frame.page)[j]? = some fr.page := by rw [List.getElem?_map, hj]; rfl
    have e3 : (V.l.map Frame.payload)[j]? = some fr.payload := by rw [List.getElem?_map, hj]; rfl
    rw [p1, List.getElem?_map] at e1
    rw [p3, List.getElem?_map] at e3
    cases hg : Q.l[j]? with
    | none => rw [hg] at e1; cases e1
    | some g =>
      rw [hg] at e1 e3
      have e1' : g.page = fr.page := by simpa using e1
      have e3' : g.payload = fr.payload := by simpa using e3
      rw [← e1', ← e3']
      exact h.page g (List.mem_of_getElem? hg)

theorem Pool.View.hold_no {Q : Pool} {A : List (Option Bytes)} {f : Nat} (h : Q.View A f) {l : Int} (ha : lookup A l = none) : Q.hold l = ([], 3, Q) := by
  unfold Pool.hold
  rw [if_neg]
  · unfold Pool.holdMiss
    rw [h.st.read l, ha]
    rfl
  · intro hf
    obtain ⟨i, hi, -, -, -, h4⟩ := h.find_hit hf
    rw [ha] at h4
    cases h4

def Pool.letOne (Q : Pool) (i : Nat) : Pool := { Q with l := Q.l.set i { Q.l.getD i Frame.empty with held := (Q.l.getD i Frame.empty).held - 1 } }

theorem Pool.View.hold_yes {Q : Pool} {A : List (Option Bytes)} {f : Nat} (h : Q.View A f) {l : Int} {b : Bytes} (ha : lookup A l = some b) :
    ∃ (Q1 : Pool) (i : Nat) (hi : i < Q1.l.length), Q.hold l = (b, 0, Q1) ∧ Q1.find l = i ∧ Q1.l[i].held = 1 ∧ (Q1.letOne i).View A f := by
  have hl0 : 0 ≤ l := by
    obtain ⟨i, rfl, -⟩ := lookup_some ha
    omega
  by_cases hf : 0 ≤ Q.find l
  · obtain ⟨i, hi, h1, h2, h3, h4⟩ := h.find_hit hf
    rw [ha] at h4
    have hb : Q.l[i].payload = b := by simpa using h4.symm
    have hg : Q.l.getD i Frame.empty = Q.l[i] := by simp [List.getD, hi]
    have hh := (h.idle _ (List.getElem_mem hi)).1
    refine ⟨{ Q with l := Q.l.set i { Q.l[i] with held := Q.l[i].held + 1, used := true } }, i, by simpa using hi, ?_, ?_, ?_, ?_⟩
    · unfold Pool.hold
      rw [if_pos hf, h1, Int.toNat_natCast, hg, hb]
    · rw [← h1]
      exact Pool.find_of_map (Q := { Q with l := Q.l.set i { Q.l[i] with held := Q.l[i].held + 1, used := true } }) (R := Q) (pages_set Q.l i hi { Q.l[i] with held := Q.l[i].held + 1, used := true } rfl) l
    · have e : (Q.l.set i { Q.l[i] with held := Q.l[i].held + 1, used := true })[i]'(by simpa using hi) = { Q.l[i] with held := Q.l[i].held + 1, used := true } := List.getElem_set_self _
      refine (congrArg Frame.held e).trans ?_
      show Q.l[i].held + 1 = 1
      omega
    · have e : (Q.l.set i { Q.l[i] with held := Q.l[i].held + 1, used := true }).getD i Frame.empty = { Q.l[i] with held := Q.l[i].held + 1, used := true } := by simp [List.getD, hi]
      unfold Pool.letOne
      dsimp only
      rw [e, List.set_set]
      exact h.touch i hi _ rfl rfl (by show Q.l[i].held + 1 - 1 = 0; omega) (h.idle _ (List.getElem_mem hi)).2
  · obtain ⟨i, V, hv, hi, hV, hp⟩ := h.victim
    have hfV : V.find l = Q.find l := Pool.find_of_map hp l
    have hnone : ∀ j, (V.l.map Frame.page)[j]? ≠ some l := fun j e => by
      have := Pool.find_only hV.inj e hl0
      omega
    obtain ⟨x, hx⟩ : ∃ x : Frame, x = ⟨l, b, 1, false, true⟩ := ⟨_, rfl⟩
    have hset : ∀ (y : Frame), y.page = l → ∀ j, ((V.l.set i y).map Frame.page)[j]? = if j = i then some l else (V.l.map Frame.page)[j]? := fun y hy j => by
      rw [List.map_set, hy, List.getElem?_set]
      by_cases hj : i = j
      · rw [if_pos hj, if_pos (by simpa using hi), if_pos hj.symm]
      · rw [if_neg hj, if_neg (fun e => hj e.symm)]
    have hinj : ∀ (y : Frame), y.page = l → ∀ (a c : Nat) (p : Int), ((V.l.set i y).map Frame.page)[a]? = some p → ((V.l.set i y).map Frame.page)[c]? = some p → 0 ≤ p → a = c := fun y hy a c p h1 h2 h3 => by
      rw [hset y hy] at h1 h2
      split at h1
      · split at h2
        · omega
        · obtain rfl : l = p := by simpa using h1
          exact absurd h2 (hnone c)
      · split at h2
        · obtain rfl : l = p := by simpa using h2
          exact absurd h1 (hnone a)
        · exact hV.inj a c p h1 h2 h3
    refine ⟨{ V with l := V.l.set i x }, i, by simpa using hi, ?_, ?_, ?_, ?_⟩
    · unfold Pool.hold
      rw [if_neg hf]
      unfold Pool.holdMiss
      rw [h.st.read l, ha, hv]
      dsimp only
      rw [if_neg (by simp), if_neg (by omega), Int.toNat_natCast, hx]
    · exact Pool.find_only (Q := { V with l := V.l.set i x }) (hinj x (by rw [hx])) (by show ((V.l.set i x).map Frame.page)[i]? = some l; rw [hset x (by rw [hx]), if_pos rfl]) hl0
    · have e : (V.l.set i x)[i]'(by simpa using hi) = x := List.getElem_set_self _
      refine (congrArg Frame.held e).trans ?_
      rw [hx]
    · have e : (V.l.set i x).getD i Frame.empty = x := by simp [List.getD, hi]
      unfold Pool.letOne
      dsimp only
      rw [e, List.set_set]
      refine ⟨hV.st, by simpa using hV.hand, fun fr hfr => ?_, fun fr hfr => ?_, hinj _ (by rw [hx])⟩
      · rcases List.mem_or_eq_of_mem_set hfr with h1 | h1
        · exact hV.idle fr h1
        · subst h1
          rw [hx]
          exact ⟨by show (1 : Int) - 1 = 0; omega, rfl⟩
      · rcases List.mem_or_eq_of_mem_set hfr with h1 | h1
        · exact hV.page fr h1
        · subst h1
          right
          rw [hx]
          exact ha

/-! New -/
theorem lookup_putAt {A : List (Option Bytes)} {b : Bytes} {p : Int} {c : Bytes} (h : lookup A p = some c) : lookup (putAt A (A.findIdx Option.isNone) (some b)) p = some c := by
  obtain ⟨i, rfl, hi⟩ := lookup_some h
  have hk : A.findIdx Option.isNone ≤ A.length := List.findIdx_le_length
  have hne : i ≠ A.findIdx Option.isNone := fun e => by
    have hlt := (List.getElem?_eq_some_iff.1 hi).1
    have hw := List.findIdx_getElem (w := (e ▸ hlt : A.findIdx Option.isNone < A.length))
    have h2 := (List.getElem?_eq_some_iff.1 hi).2
    subst e
    rw [h2] at hw
    cases hw
  rw [lookup_nat, putAt_get _ _ _ hk, if_neg hne, hi]
  rfl

theorem Pool.View.onNew {Q : Pool} {A : List (Option Bytes)} {f g : Nat} {S' : Store} {b : Bytes} (h : Q.View A f) (hs : S'.View (putAt A (A.findIdx Option.isNone) (some b)) g) :
    Pool.View { Q with s := S' } (putAt A (A.findIdx Option.isNone) (some b)) g :=
  ⟨hs, h.hand, h.idle, fun fr hf => (h.page fr hf).imp id fun e => lookup_putAt e, h.inj⟩

/-! Drop -/
def Pool.drop (Q : Pool) (l : Int) : Int × Pool :=
  if 0 ≤ Q.find l ∧ 0 < (Q.l.getD (Q.find l).toNat Frame.empty).held then (16, Q)
  else if (Q.s.drop l).1 ≠ 0 then ((Q.s.drop l).1, { Q with s := (Q.s.drop l).2 })
  else (0, { Q with s := (Q.s.drop l).2, l := if 0 ≤ Q.find l then Q.l.set (Q.find l).toNat Frame.empty else Q.l })

theorem Pool.View.free {Q : Pool} {A : List (Option Bytes)} {f : Nat} (h : Q.View A f) (l : Int) : ¬ (0 ≤ Q.find l ∧ 0 < (Q.l.getD (Q.find l).toNat Frame.empty).held) := by
  rintro ⟨h1, h2⟩
  obtain ⟨i, hi, e, -⟩ := h.find_hit h1
  have hg : Q.l.getD i Frame.empty = Q.l[i] := by simp [List.getD, hi]
  rw [e, Int.toNat_natCast, hg, (h.idle _ (List.getElem_mem hi)).1] at h2
  omega

theorem Pool.View.drop_no {Q : Pool} {A : List (Option Bytes)} {f : Nat} (h : Q.View A f) {l : Int} (ha : lookup A l = none) : Q.drop l = (3, Q) := by
  unfold Pool.drop
  rw [if_neg (h.free l), h.st.drop_no ha]
  rfl

theorem Pool.View.drop_yes {Q : Pool} {A : List (Option Bytes)} {f : Nat} (h : Q.View A f) {i : Nat} {b : Bytes} (ha : lookup A i = some b) :
    ∃ Q', Q.drop i = (0, Q') ∧ Q'.View (A.set i none) (f + 1) := by
  obtain ⟨i', e, hi⟩ := lookup_some ha
  obtain rfl : i = i' := by omega
  obtain ⟨S', hd, hs⟩ := h.st.drop_ok i hi
  have hil := (List.getElem?_eq_some_iff.1 hi).1
  refine ⟨_, by unfold Pool.drop; rw [if_neg (h.free _), hd, if_neg (by simp)], ?_⟩
  have hlook : ∀ (p : Int) (c : Bytes), lookup A p = some c → p ≠ i → lookup (A.set i none) p = some c := fun p c hp hne => by
    obtain ⟨j, rfl, hj⟩ := lookup_some hp
    rw [lookup_nat, List.getElem?_set, if_neg (by omega), hj]
    rfl
  by_cases hf : 0 ≤ Q.find i
  · rw [if_pos hf]
    obtain ⟨k, hk, e1, e2, -⟩ := h.find_hit hf
    rw [e1, Int.toNat_natCast]
    have hset : ∀ j, ((Q.l.set k Frame.empty).map Frame.page)[j]? = if j = k then some (-1) else (Q.l.map Frame.page)[j]? := fun j => by
      rw [List.map_set, List.getElem?_set]
      by_cases hj : k = j
      · rw [if_pos hj, if_pos (by simpa using hk), if_pos hj.symm]
        rfl
      · rw [if_neg hj, if_neg (fun e => hj e.symm)]
    refine ⟨hs, by simpa using h.hand, fun fr hfr => ?_, fun fr hfr => ?_, fun a c p h1 h2 h3 => ?_⟩
    · rcases List.mem_or_eq_of_mem_set hfr with h1 | h1
      · exact h.idle fr h1
      · subst h1; exact ⟨rfl, rfl⟩
    · obtain ⟨j, hj⟩ := List.mem_iff_getElem?.1 hfr
      have hj' : (Q.l.set k Frame.empty)[j]? = some fr := hj
      rw [List.getElem?_set] at hj'
      split at hj'
      · rename_i e
        left
        obtain rfl : Frame.empty = fr := by simpa using hj'
        show (-1 : Int) < 0
        omega
      · rename_i hkj
        rcases h.page fr (List.mem_of_getElem? hj') with h1 | h1
        · exact .inl h1
        · right
          apply hlook _ _ h1
          intro e3
          apply hkj
          apply h.inj k j i
          · rw [List.getElem?_map, List.getElem?_eq_getElem hk]; simp [e2]
          · rw [List.getElem?_map, hj']; simp [e3]
          · omega
    · have h1' : (if a = k then some (-1) else (Q.l.map Frame.page)[a]?) = some p := by rw [← hset]; exact h1
      have h2' : (if c = k then some (-1) else (Q.l.map Frame.page)[c]?) = some p := by rw [← hset]; exact h2
      split at h1'
      · have : -1 = p := by simpa using h1'
        omega
      · split at h2'
        · have : -1 = p := by simpa using h2'
          omega
        · exact h.inj a c p h1' h2' h3
  · rw [if_neg hf]
    refine ⟨hs, h.hand, h.idle, fun fr hfr => ?_, h.inj⟩
    rcases h.page fr hfr with h1 | h1
    · exact .inl h1
    · right
      apply hlook _ _ h1
      intro e3
      obtain ⟨j, hj⟩ := List.mem_iff_getElem?.1 hfr
      have := Pool.find_only h.inj (i := j) (p := (i : Int)) (by rw [List.getElem?_map, hj]; simp [e3]) (by omega)
      omega

end Go.Proofs.YtjbpdgknhbnfgaaGreat

namespace Go.Proofs.YtjbpdgknhbnfgaaGreat

abbrev Pages := List (Option Bytes)
def holeOf (A : Pages) : Nat := A.findIdx Option.isNone
theorem holeOf_le (A : Pages) : holeOf A ≤ A.length := List.findIdx_le_length
theorem lookup_hole (A : Pages) : lookup A (holeOf A) = none := by
  rw [lookup_nat]
  cases h : A[holeOf A]? with
  | none => rfl
  | some x =>
    have hlt := (List.getElem?_eq_some_iff.1 h).1
    have hw := List.findIdx_getElem (w := (hlt : A.findIdx Option.isNone < A.length))
    have h2 : A[A.findIdx Option.isNone] = x := (List.getElem?_eq_some_iff.1 h).2
    rw [h2] at hw
    cases x with
    | none => rfl
    | some b => cases hw
def addPage (A : Pages) (b : Bytes) : Pages := putAt A (holeOf A) (some b)
theorem lookup_add (A : Pages) (b : Bytes) (l : Int) : lookup (addPage A b) l = if l = holeOf A then some b else lookup A l := by
  by_cases h0 : l < 0
  · unfold lookup
    rw [if_pos h0, if_pos h0, if_neg (by omega)]
  · obtain ⟨i, rfl⟩ : ∃ i : Nat, l = i := ⟨l.toNat, by omega⟩
    rw [lookup_nat, lookup_nat]
    unfold addPage
    rw [putAt_get _ _ _ (holeOf_le A)]
    by_cases hi : i = holeOf A
    · rw [if_pos hi, if_pos (by omega)]; rfl
    · rw [if_neg hi, if_neg (by omega)]
theorem addPage_length (A : Pages) (b : Bytes) : (addPage A b).length ≤ A.length + 1 := by
  unfold addPage
  have := holeOf_le A
  rw [putAt_length _ _ _ this]
  omega
theorem lookup_set (A : Pages) (i : Nat) (l : Int) : lookup (A.set i none) l = if l = i then none else lookup A l := by
  by_cases h0 : l < 0
  · unfold lookup
    rw [if_pos h0, if_pos h0, if_neg (by omega)]
  · obtain ⟨j, rfl⟩ : ∃ j : Nat, l = j := ⟨l.toNat, by omega⟩
    rw [lookup_nat, lookup_nat, List.getElem?_set]
    by_cases hi : j = i
    · subst hi
      rw [if_pos rfl, if_pos rfl]
      split <;> rfl
    · rw [if_neg (by omega), if_neg (by omega)]

/-! chains -/
def linkBytes (next : Int) (b : Bytes) : Bytes := two (next + 1) ++ (two b.length ++ b)
abbrev Link := Int × Bytes
def nxt : List Link → Int
  | [] => -1
  | x :: _ => x.1
def Chain (A : Pages) : List Link → Prop
  | [] => True
  | x :: r => lookup A x.1 = some (pad (linkBytes (nxt r) x.2)) ∧ x.2.length ≤ 228 ∧ x.1 ≤ 511 ∧ Chain A r
def cbytes (r : List Link) : Bytes := r.flatMap Prod.snd
def cpages (r : List Link) : List Int := r.map Prod.fst

theorem lookup_nonneg {A : Pages} {l : Int} {b : Bytes} (h : lookup A l = some b) : 0 ≤ l := by
  obtain ⟨i, rfl, -⟩ := lookup_some h
  omega
theorem Chain.mono {A A' : Pages} : ∀ {r : List Link}, Chain A r → (∀ l ∈ cpages r, lookup A' l = lookup A l) → Chain A' r
  | [], _, _ => trivial
  | x :: r, h, hs => by
    obtain ⟨h1, h2, h3, h4⟩ := h
    exact ⟨by rw [hs x.1 (by simp [cpages])]; exact h1, h2, h3, Chain.mono h4 fun l hl => hs l (by simp only [cpages, List.map_cons, List.mem_cons] at hl ⊢; exact .inr hl)⟩
theorem Chain.there {A : Pages} : ∀ {r : List Link}, Chain A r → ∀ l ∈ cpages r, ∃ b, lookup A l = some b
  | [], _, l, hl => by simp [cpages] at hl
  | x :: r, h, l, hl => by
    obtain ⟨h1, h2, h3, h4⟩ := h
    simp only [cpages, List.map_cons, List.mem_cons] at hl
    rcases hl with rfl | hl
    · exact ⟨_, h1⟩
    · exact Chain.there h4 l hl
theorem Chain.nxt_bd {A : Pages} {r : List Link} (h : Chain A r) : -1 ≤ nxt r ∧ nxt r ≤ 511 := by
  cases r with
  | nil => exact ⟨by simp [nxt], by simp [nxt]⟩
  | cons x r =>
    obtain ⟨h1, h2, h3, h4⟩ := h
    have := lookup_nonneg h1
    exact ⟨by simp [nxt]; omega, by simpa [nxt] using h3⟩

/-! what chain.Put makes -/
def piece (v : Bytes) (i : Nat) : Bytes := (v.drop (i * 228)).take 228
theorem piece_length (v : Bytes) (i : Nat) : (piece v i).length ≤ 228 := by simp [piece]; omega
/-- After so many pieces, the last first: the pages, and the chain so far. -/
def laid (v : Bytes) (k : Nat) (A : Pages) : Nat → Pages × List Link
  | 0 => (A, [])
  | j + 1 =>
    let s := laid v k A j
    (addPage s.1 (pad (linkBytes (nxt s.2) (piece v (k - 1 - j)))), (((holeOf s.1 : Nat) : Int), piece v (k - 1 - j)) :: s.2)

structure LaidOk (v : Bytes) (k : Nat) (A : Pages) (j : Nat) : Prop where
  len : (laid v k A j).1.length ≤ A.length + j
  chain : Chain (laid v k A j).1 (laid v k A j).2
  many : (laid v k A j).2.length = j
  nodup : (cpages (laid v k A j).2).Nodup
  old : ∀ l, l ∉ cpages (laid v k A j).2 → lookup (laid v k A j).1 l = lookup A l
  new : ∀ l ∈ cpages (laid v k A j).2, lookup A l = none

theorem laid_ok (v : Bytes) (k : Nat) (A : Pages) : ∀ j, A.length + j ≤ 512 → LaidOk v k A j
  | 0, _ => ⟨Nat.le_refl _, trivial, rfl, by simp [laid, cpages], fun _ _ => rfl, fun l hl => by simp [laid, cpages] at hl⟩
  | j + 1, hj => by
    obtain ⟨h1, h2, h3, h4, h5, h6⟩ := laid_ok v k A j (by omega)
    obtain ⟨s, hs⟩ : ∃ s, s = laid v k A j := ⟨_, rfl⟩
    have hl : laid v k A (j + 1) = (addPage s.1 (pad (linkBytes (nxt s.2) (piece v (k - 1 - j)))), (((holeOf s.1 : Nat) : Int), piece v (k - 1 - j)) :: s.2) := by
      rw [hs]; rfl
    rw [← hs] at h1 h2 h3 h4 h5 h6
    have hh := holeOf_le s.1
    have hnot : ((holeOf s.1 : Nat) : Int) ∉ cpages s.2 := fun hm => by
      obtain ⟨b, hb⟩ := h2.there _ hm
      rw [lookup_hole] at hb
      cases hb
    refine ⟨?_, ?_, ?_, ?_, fun l hm => ?_, fun l hm => ?_⟩
    · rw [hl]
      have := addPage_length s.1 (pad (linkBytes (nxt s.2) (piece v (k - 1 - j))))
      show (addPage s.1 _).length ≤ _
      omega
    · rw [hl]
      refine ⟨?_, piece_length _ _, by show ((holeOf s.1 : Nat) : Int) ≤ 511; omega, h2.mono fun l hm => ?_⟩
      · show lookup (addPage s.1 _) ((holeOf s.1 : Nat) : Int) = _
        rw [lookup_add, if_pos rfl]
      · show lookup (addPage s.1 _) l = _
        have hne : ¬ l = ((holeOf s.1 : Nat) : Int) := fun e => hnot (by rw [← e]; exact hm)
        rw [lookup_add, if_neg hne]
    · rw [hl]
      show (_ :: s.2).length = j + 1
      rw [List.length_cons, h3]
    · rw [hl]
      show (((holeOf s.1 : Nat) : Int) :: cpages s.2).Nodup
      exact List.nodup_cons.2 ⟨hnot, h4⟩
    · rw [hl] at hm ⊢
      have hm' : l ∉ (((holeOf s.1 : Nat) : Int) :: cpages s.2) := hm
      rw [List.mem_cons, not_or] at hm'
      show lookup (addPage s.1 _) l = _
      rw [lookup_add, if_neg hm'.1]
      exact h5 l hm'.2
    · rw [hl] at hm
      have hm' : l ∈ (((holeOf s.1 : Nat) : Int) :: cpages s.2) := hm
      rw [List.mem_cons] at hm'
      rcases hm' with rfl | hm'
      · rw [← h5 _ hnot, lookup_hole]
      · exact h6 l hm'

/-- The value's pieces, from the i-th on. -/
def pieces (v : Bytes) (i : Nat) : Nat → Bytes
  | 0 => []
  | n + 1 => piece v i ++ pieces v (i + 1) n
theorem pieces_all (v : Bytes) : ∀ (n i : Nat), v.length ≤ (i + n) * 228 → pieces v i n = v.drop (i * 228)
  | 0, i, h => by
    rw [List.drop_eq_nil_of_le (by omega)]
    rfl
  | n + 1, i, h => by
    unfold pieces piece
    rw [pieces_all v n (i + 1) (by have e : (i + 1 + n) = i + (n + 1) := by omega
                                   rw [e]; exact h)]
    rw [show (i + 1) * 228 = i * 228 + 228 by omega, ← List.drop_drop, List.take_append_drop]
theorem laid_bytes (v : Bytes) (k : Nat) (A : Pages) : ∀ j, j ≤ k → cbytes (laid v k A j).2 = pieces v (k - j) j
  | 0, _ => rfl
  | j + 1, hj => by
    have ih := laid_bytes v k A j (by omega)
    have e1 : k - 1 - j = k - (j + 1) := by omega
    have e2 : k - (j + 1) + 1 = k - j := by omega
    unfold laid
    dsimp only
    show piece v (k - 1 - j) ++ cbytes (laid v k A j).2 = pieces v (k - (j + 1)) (j + 1)
    rw [ih, e1]
    show _ = piece v (k - (j + 1)) ++ pieces v (k - (j + 1) + 1) j
    rw [e2]

end Go.Proofs.YtjbpdgknhbnfgaaGreat

namespace Go.Proofs.YtjbpdgknhbnfgaaGreat
open Go.RowKit
set_option maxRecDepth 100000

/-- A pool at rest with the pages A and f free physical pages. -/
def PoolIs (w : World) (b : PoolB) (A : Pages) (f : Nat) : Prop := ∃ Q, PoolAt w b Q ∧ Q.View A f
theorem PoolIs.kept {w w' : World} {b : PoolB} {A : Pages} {f : Nat} {F : List Nat} (h : PoolIs w b A f) (hc : Chg F w w') (hn : ∀ k ∈ b.set, k ∉ F) : PoolIs w' b A f := by
  obtain ⟨Q, h1, h2⟩ := h
  exact ⟨Q, h1.kept hc hn, h2⟩
theorem PoolIs.kept0 {w w' : World} {b : PoolB} {A : Pages} {f : Nat} (h : PoolIs w b A f) (hc : Chg [] w w') : PoolIs w' b A f := h.kept hc (by simp)
theorem PoolIs.lt {w : World} {b : PoolB} {A : Pages} {f : Nat} (h : PoolIs w b A f) : ∀ k ∈ b.set, k < w.heap.size := by
  obtain ⟨Q, h1, h2⟩ := h
  exact h1.lt

theorem pool_with_yes {w : World} {b : PoolB} {A : Pages} {f : Nat} (h : PoolIs w b A f) (l : Int) {bs : Bytes} (ha : lookup A l = some bs) {g : Nat} {T : TypeId} {u : Value} (hb : Blk w g T [u]) (hg : g ∉ b.set) :
    Calls Tryz.prog 120 #[ptrV b.p, intV l, .func (.func 122) #[] #[ptrV g]] w fun e w' => e = .returned (intV 0) ∧ PoolIs w' b A f ∧ Blk w' g T [strV bs] ∧ Chg (g :: b.set) w w' := by
  obtain ⟨Q, h, hv⟩ := h
  have hh := pool_hold h hv.st.ok hv.clean hv.heldOk l
  obtain ⟨Q1, i, hi, e1, e2, e3, e4⟩ := hv.hold_yes ha
  rw [e1] at hh
  dsimp only at hh
  have hg1 := fun (w1 : World) (hc : Chg b.set w w1) => get1 bs g (hb.kept hc hg)
  have hlet := fun (w2 : World) (h2 : PoolAt w2 b Q1) => pool_let h2 l i e2 hi (by omega) (by omega)
  have hq : ({ Q1 with l := Q1.l.set i { Q1.l[i] with held := Q1.l[i].held - 1 } } : Pool) = Q1.letOne i := by
    unfold Pool.letOne
    rw [show Q1.l.getD i Frame.empty = Q1.l[i] by simp [List.getD, hi]]
  rw [hq] at hlet
  have HH := Lib.hid hh
  have HG := Lib.hid hg1
  have HL := Lib.hid hlet
  have HV := Lib.hid e4
  have HN := Lib.hid hg
  clear hh hg1 hlet e1 e2 e3 e4 h hv hq hi ha hb hg
  generalize Q1.letOne i = Q2 at *
  go_enter Tryz.func120, Tryz.ntmps120
  go_wp2_with (first
    | (go_at_call 52; with_reducible refine HH.out.mono ?_; rintro e w1 ⟨rfl, h1, hc1⟩; have H1 := Lib.hid h1; have C1 := Lib.hid hc1; clear h1 hc1)
    | (go_at_call 122; with_reducible refine (HG.out _ C1.out).mono ?_; rintro e w2 ⟨rfl, hb2, hc2⟩; have H2 := Lib.hid (H1.out.kept hc2 (fun k hk hm => by simp at hm; subst hm; exact absurd hk HN.out)); have B2 := Lib.hid hb2; have C2 := Lib.hid ((C1.out.mono (G := g :: b.set) (fun k hk => by simp [hk])).trans1 (hc2.mono (by simp))); clear hb2 hc2)
    | (go_at_call 56; with_reducible refine (HL.out _ H2.out).mono ?_; rintro e w3 ⟨rfl, h3, hc3⟩; have H3 := Lib.hid h3; have B3 := Lib.hid (B2.out.kept hc3 HN.out); have C3 := Lib.hid (C2.out.trans1 (hc3.mono (fun k hk => by simp [hk]))); clear h3 hc3))
  go_ret
  exact ⟨rfl, ⟨Q2, H3.out, HV.out⟩, B3.out, C3.out⟩

theorem pool_with_no {w : World} {b : PoolB} {A : Pages} {f : Nat} (h : PoolIs w b A f) (l : Int) (ha : lookup A l = none) (v : Value) :
    Calls Tryz.prog 120 #[ptrV b.p, intV l, v] w fun e w' => e = .returned (intV 3) ∧ PoolIs w' b A f ∧ Chg b.set w w' := by
  obtain ⟨Q, h, hv⟩ := h
  have hh := pool_hold h hv.st.ok hv.clean hv.heldOk l
  rw [hv.hold_no ha] at hh
  dsimp only at hh
  have HH := Lib.hid hh
  have HV := Lib.hid hv
  clear hh h hv ha
  go_enter Tryz.func120, Tryz.ntmps120
  go_wp2_with (first
    | (go_at_call 52; with_reducible refine HH.out.mono ?_; rintro e w1 ⟨rfl, h1, hc1⟩; have H1 := Lib.hid h1; have C1 := Lib.hid hc1; clear h1 hc1))
  go_ret
  exact ⟨rfl, ⟨Q, H1.out, HV.out⟩, C1.out⟩

theorem pool_get_yes {w : World} {b : PoolB} {A : Pages} {f : Nat} (h : PoolIs w b A f) (l : Int) {bs : Bytes} (ha : lookup A l = some bs) :
    Calls Tryz.prog 46 #[ptrV b.p, intV l] w fun e w' => e = .returned (.tuple #[strV bs, intV 0]) ∧ PoolIs w' b A f ∧ Chg b.set w w' := by
  have hB : Blk (w.alloc (.cells #[strV []] 9)) w.heap.size 9 [strV []] := Blk.new w _ _
  have hlt := h.lt
  have hnb : w.heap.size ∉ b.set := fun hm => by have := hlt _ hm; omega
  have h0 := h.kept0 ((Chg.refl [] w).alloc (.cells #[strV []] 9))
  have hw := pool_with_yes h0 l ha hB hnb
  have HW := Lib.hid hw
  have HN := Lib.hid hnb
  clear hw h0 hB h ha hnb hlt
  have hmf : ∀ (fn : Fn) (first cap : Array Value) (w : World), (Instr.makeFunc fn first cap).run Tryz.prog w = .ok (.func fn first cap) w := fun _ _ _ _ => rfl
  go_enter Tryz.func46, Tryz.ntmps46
  go_wp2_with (first
    | (go_at_call 120; with_reducible refine HW.out.mono ?_; rintro e w1 ⟨rfl, h1, hb1, hc1⟩; have H1 := Lib.hid h1; have C1 := Lib.hid hc1; have k0 := hb1.cell 0; simp at k0; clear h1 hb1 hc1))
  go_ret2
  refine ⟨rfl, H1.out, ((Chg.refl _ _).alloc _).trans C1.out (fun k hk => ?_)⟩
  simp only [List.mem_cons] at hk
  rcases hk with rfl | hk
  · exact .inr (Nat.le_refl _)
  · exact .inl hk

theorem pool_get_no {w : World} {b : PoolB} {A : Pages} {f : Nat} (h : PoolIs w b A f) (l : Int) (ha : lookup A l = none) :
    Calls Tryz.prog 46 #[ptrV b.p, intV l] w fun e w' => e = .returned (.tuple #[strV [], intV 3]) ∧ PoolIs w' b A f ∧ Chg b.set w w' := by
  have hB : Blk (w.alloc (.cells #[strV []] 9)) w.heap.size 9 [strV []] := Blk.new w _ _
  have hlt := h.lt
  have hnb : w.heap.size ∉ b.set := fun hm => by have := hlt _ hm; omega
  have h0 := h.kept0 ((Chg.refl [] w).alloc (.cells #[strV []] 9))
  have hw := pool_with_no h0 l ha (.func (.func 122) #[] #[ptrV w.heap.size])
  have HW := Lib.hid hw
  have HN := Lib.hid hnb
  have HB := Lib.hid hB
  clear hw h0 hB h ha hnb hlt
  have hmf : ∀ (fn : Fn) (first cap : Array Value) (w : World), (Instr.makeFunc fn first cap).run Tryz.prog w = .ok (.func fn first cap) w := fun _ _ _ _ => rfl
  go_enter Tryz.func46, Tryz.ntmps46
  go_wp2_with (first
    | (go_at_call 120; with_reducible refine HW.out.mono ?_; rintro e w1 ⟨rfl, h1, hc1⟩; have H1 := Lib.hid h1; have C1 := Lib.hid hc1; have k0 := (HB.out.kept hc1 HN.out).cell 0; simp at k0; clear h1 hc1))
  go_ret2
  exact ⟨rfl, H1.out, ((Chg.refl _ _).alloc _).trans1 C1.out⟩

end Go.Proofs.YtjbpdgknhbnfgaaGreat

namespace Go.Proofs.YtjbpdgknhbnfgaaGreat
open Go.RowKit
set_option maxRecDepth 100000
attribute [local go_sem ↓] store_frame

/-- The pool at b is at rest; its store may lie in other blocks now. -/
def PoolTo (b : PoolB) (w w' : World) (A : Pages) (f : Nat) : Prop := ∃ sb, PoolIs w' { b with s := sb } A f ∧ Grew b.set (PoolB.set { b with s := sb }) w w'

theorem PoolTo.same {b : PoolB} {w w' : World} {A A' : Pages} {f f' : Nat} (h0 : PoolIs w b A f) (h : PoolIs w' b A' f') (hc : Chg b.set w w') : PoolTo b w w' A' f' := ⟨b.s, h, Grew.same hc h0.lt⟩

theorem pool_drop_no {w : World} {b : PoolB} {A : Pages} {f : Nat} (h : PoolIs w b A f) (l : Int) (ha : lookup A l = none) :
    Calls Tryz.prog 58 #[ptrV b.p, intV l] w fun e w' => e = .returned (intV 3) ∧ PoolTo b w w' A f := by
  have h0 := h
  obtain ⟨Q, h, hv⟩ := h
  have hfd := pool_find h l
  have hfl : Q.find l < 0 := by
    apply Classical.byContradiction
    intro hn
    obtain ⟨i, hi, -, -, -, h4⟩ := hv.find_hit (by omega : 0 ≤ Q.find l)
    rw [ha] at h4
    cases h4
  have hsd := fun (w1 : World) (h1 : PoolAt w1 b Q) => store_drop h1.s hv.st.ok l
  rw [hv.st.drop_no ha] at hsd
  dsimp only at hsd
  have HF := Lib.hid hfd
  have HD := Lib.hid hsd
  have HH := Lib.hid h
  have HV := Lib.hid hv
  have H0 := Lib.hid h0
  clear hfd hsd h hv h0 ha
  generalize Q.find l = fi at *
  have hmf : ∀ (fn : Fn) (first cap : Array Value) (w : World), (Instr.makeFunc fn first cap).run Tryz.prog w = .ok (.func fn first cap) w := fun _ _ _ _ => rfl
  go_enter Tryz.func58, Tryz.ntmps58
  go_wp2_with (first
    | (go_at_call 127; with_reducible refine HF.out.mono ?_; rintro e w1 ⟨rfl, hc1⟩; have H1 := Lib.hid (HH.out.kept0 hc1); have k0 := H1.out.cells.1; have C1 := Lib.hid (hc1.mono (G := b.set) (by simp)); clear hc1)
    | (go_at_call 33; with_reducible refine (HD.out _ H1.out).mono ?_; rintro e w2 ⟨rfl, hs2⟩; have H2 := Lib.hid (H1.out.onS hs2); clear hs2))
  go_ret
  obtain ⟨sb, p2, g2⟩ := H2.out
  exact ⟨rfl, sb, ⟨_, p2, HV.out⟩, ((Grew.same C1.out HH.out.lt).trans g2)⟩

set_option maxHeartbeats 1000000 in
theorem pool_drop_yes {w : World} {b : PoolB} {A : Pages} {f : Nat} (h : PoolIs w b A f) (i : Nat) {bs : Bytes} (ha : lookup A i = some bs) :
    Calls Tryz.prog 58 #[ptrV b.p, intV i] w fun e w' => e = .returned (intV 0) ∧ PoolTo b w w' (A.set i none) (f + 1) := by
  obtain ⟨Q, h, hv⟩ := h
  have hfd := pool_find h i
  obtain ⟨Q', hq, hV'⟩ := hv.drop_yes ha
  obtain ⟨S', hd, -⟩ := hv.st.drop_ok i (by obtain ⟨j, e, hj⟩ := lookup_some ha; obtain rfl : i = j := by omega
                                            exact hj)
  have hsd := fun (w1 : World) (h1 : PoolAt w1 b Q) => store_drop h1.s hv.st.ok i
  unfold Pool.drop at hq
  rw [if_neg (hv.free _), hd, if_neg (by simp)] at hq
  rw [hd] at hsd
  dsimp only at hsd hq
  have hmf : ∀ (fn : Fn) (first cap : Array Value) (w : World), (Instr.makeFunc fn first cap).run Tryz.prog w = .ok (.func fn first cap) w := fun _ _ _ _ => rfl
  have HF := Lib.hid hfd
  have HD := Lib.hid hsd
  have HH := Lib.hid h
  by_cases hf : 0 ≤ Q.find i
  · obtain ⟨k, hk, e1, e2, -⟩ := hv.find_hit hf
    rw [if_pos hf, e1, Int.toNat_natCast] at hq
    obtain ⟨g, cap, hlv, hgb, hcap1, hcap2⟩ := pool_lv h
    have hcell := fun (w1 : World) (h1 : PoolAt w1 b Q) => (frame_cells2 h1 hlv k hk).2.2.1
    rw [(hv.idle _ (List.getElem_mem hk)).1] at hcell
    have hk1 := fun (w1 : World) (h1 : PoolAt w1 b Q) => (show w1.cell? ⟨b.p, 1, none⟩ = some (.slice (some ⟨g, 0, none⟩) Q.l.length cap) by rw [h1.cells.2.1, hlv])
    have hput := fun (sb : StoreB) (w3 : World) (h3 : PoolAt w3 { b with s := sb } { Q with s := S' }) => h3.putF (g := g) (cap := cap) hlv k hk Frame.empty
    have hrow := fun (sb : StoreB) (w3 : World) (h3 : PoolAt w3 { b with s := sb } { Q with s := S' }) => (own_frame_put h3.l (g := g) (cap := cap) hlv k hk Frame.empty).1
    have hk2 := fun (sb : StoreB) (w3 : World) (h3 : PoolAt w3 { b with s := sb } { Q with s := S' }) => (show w3.cell? ⟨b.p, 1, none⟩ = some (.slice (some ⟨g, 0, none⟩) Q.l.length cap) by rw [h3.cells.2.1]; exact congrArg some hlv)
    have hag : AggOf (frameV Frame.empty) 5 := AggOf.mk' (us := Frame.empty.cells) rfl (Frame.cells_one _)
    have hfew := h.few
    have hem := fun (wr : World) => pool_empty wr
    simp only [Prod.mk.injEq, true_and] at hq
    rw [hq] at hput
    rw [e1] at HF
    have HC := Lib.hid hcell
    have HK1 := Lib.hid hk1
    have HK2 := Lib.hid hk2
    have HPUT := Lib.hid hput
    have HROW := Lib.hid hrow
    have HV := Lib.hid hV'
    have HEM := Lib.hid hem
    have hil : (k : Int) < (Q.l.length : Int) := by omega
    have hk0 : (0 : Int) ≤ (k : Int) := by omega
    dsimp only [frameV, Frame.empty] at hag
    have HAG := Lib.hid hag
    have HLV := Lib.hid (show b.lv = .slice (some ⟨g, 0, none⟩) Q.l.length cap from hlv)
    clear hfd hsd h hv hV' hcell hk1 hk2 hput hrow hem hlv hgb hq hf e1 e2 hk hd ha hag
    obtain ⟨n, hn⟩ : ∃ n, n = Q.l.length := ⟨_, rfl⟩
    rw [← hn] at HK1 HK2 HLV hcap1 hfew hil
    clear hn
    go_enter Tryz.func58, Tryz.ntmps58
    go_wp2_with (first
      | (go_at_call 127; with_reducible refine HF.out.mono ?_; rintro e w1 ⟨rfl, hc1⟩; have H1 := Lib.hid (HH.out.kept0 hc1); have k0 := H1.out.cells.1; have k1 := HK1.out _ H1.out; have k2 := HC.out _ H1.out; have C1 := Lib.hid (hc1.mono (G := b.set) (by simp)); clear hc1)
      | (go_at_call 33; with_reducible refine (HD.out _ H1.out).mono ?_; rintro e w2 ⟨rfl, hs2⟩; obtain ⟨sb, p2, g2⟩ := H1.out.onS hs2; have P2 := Lib.hid p2; have G2 := Lib.hid g2; clear k1 k2 hs2 p2 g2; have k1 := HK2.out _ _ P2.out))
    have k9 := HROW.out sb _ P2.out
    have hag := HAG.out
    go_region_held3 (fun w' => w'.cell? ⟨b.p, 1, none⟩ = some (.slice (some ⟨g, 0, none⟩) n cap))
      (first | exact k1 | exact k3 | exact (HPUT.out sb _ P3.out).1.cells.2.1.trans (congrArg some HLV.out))
      (first
      | (go_at_call 126; with_reducible refine (HEM.out _).mono ?_; rintro e w3 ⟨rfl, hc3⟩; have P3 := Lib.hid (P2.out.kept0 ((Chg.drew (Chg.refl [] _)).trans1 hc3)); have k3 := HK2.out _ _ P3.out; have k8 := HROW.out sb _ P3.out))
    go_wp2_with fail
    go_ret
    refine ⟨rfl, sb, ⟨Q', (HPUT.out sb _ P3.out).1, HV.out⟩, ((Grew.same C1.out HH.out.lt).trans (G2.out.trans (Grew.same ?_ P2.out.lt)))⟩
    exact (((Chg.refl _ _).drew).trans0 hc3).trans1 (HPUT.out sb _ P3.out).2
  · rw [if_neg hf] at hq
    simp only [Prod.mk.injEq, true_and] at hq
    subst hq
    have hf2 : Q.find i < 0 := by omega
    have HV := Lib.hid hV'
    clear hfd hsd h hv hV' hf hd ha
    generalize Q.find i = fi at *
    go_enter Tryz.func58, Tryz.ntmps58
    go_wp2_with (first
      | (go_at_call 127; with_reducible refine HF.out.mono ?_; rintro e w1 ⟨rfl, hc1⟩; have H1 := Lib.hid (HH.out.kept0 hc1); have k0 := H1.out.cells.1; have C1 := Lib.hid (hc1.mono (G := b.set) (by simp)); clear hc1)
      | (go_at_call 33; with_reducible refine (HD.out _ H1.out).mono ?_; rintro e w2 ⟨rfl, hs2⟩; have H2 := Lib.hid (H1.out.onS hs2); clear hs2))
    go_ret
    obtain ⟨sb, p2, g2⟩ := H2.out
    exact ⟨rfl, sb, ⟨_, p2, HV.out⟩, ((Grew.same C1.out HH.out.lt).trans g2)⟩

/-! New of a page -/
theorem pool_new_ok {w : World} {b : PoolB} {A : Pages} {f : Nat} (h : PoolIs w b A (f + 1)) (pl : Bytes) (hl : pl.length ≤ 232) (hh : holeOf A < 512) :
    Calls Tryz.prog 53 #[ptrV b.p, strV pl] w fun e w' => e = .returned (.tuple #[intV (holeOf A), intV 0]) ∧ PoolTo b w w' (addPage A (pad pl)) f := by
  obtain ⟨Q, h, hv⟩ := h
  obtain ⟨S', e, hs⟩ := hv.st.new_ok pl hl hh
  refine (pool_make h hv.st.ok pl (by omega)).mono ?_
  rintro e' w' ⟨rfl, sb, p2, g2⟩
  rw [e] at p2 ⊢
  exact ⟨rfl, sb, ⟨_, p2, hv.onNew hs⟩, g2⟩
theorem pool_new_full {w : World} {b : PoolB} {A : Pages} (h : PoolIs w b A 0) (pl : Bytes) (hl : pl.length ≤ 232) :
    Calls Tryz.prog 53 #[ptrV b.p, strV pl] w fun e w' => e = .returned (.tuple #[intV 0, intV 11]) ∧ PoolTo b w w' A 0 := by
  obtain ⟨Q, h, hv⟩ := h
  have e := hv.st.new_full pl hl
  refine (pool_make h hv.st.ok pl (by omega)).mono ?_
  rintro e' w' ⟨rfl, sb, p2, g2⟩
  rw [e] at p2 ⊢
  exact ⟨rfl, sb, ⟨_, p2, hv⟩, g2⟩

end Go.Proofs.YtjbpdgknhbnfgaaGreat

namespace Go.Proofs.YtjbpdgknhbnfgaaGreat
open Go.RowKit
set_option maxRecDepth 100000

section
variable {P : Program} {w : World} {ops : Array Oper} {o : Oper} {a : Act} {K : Act → World → Prop} {Q : Exit → Act → World → Prop} {E : Prop}

theorem step_append (hgd : o.guard = none) (s x : Operand) (t tx : TypeId) (ho : o.op = .call { callee := .builtin .append, args := #[s, x], argTypes := #[t, tx] })
    (e : TypeId) (size bytes : Nat) (z : Value) (ht : P.underlying t = some (.slice e)) (hi : (P.info? e).map (fun i => (i.zero, i.size, i.bytes)) = some (some z, size, bytes)) (hzs : z.cells.size = size) (hsz : 0 < size)
    (v : Value) (n m : Nat) (xs news : List Value) (hv : a.eval s = v) (hown : Own w e size v n xs) (hs : Src P size tx (a.eval x) m news w) (hbytes : (n + m) * bytes ≤ 140737488355328) (h63 : n + m ≤ maxLen)
    (h : ∀ ad c w', Own w' e size (.slice ad (n + m) c) (n + m) (xs ++ news) → Chg (ownBlk v) w w' → (∀ k ∈ ownBlk (.slice ad (n + m) c), k ∈ ownBlk v ∨ w.heap.size ≤ k) → c ≤ maxLen → n + m ≤ c →
      K (a.put o.dst (.slice ad (n + m) c)) w') : if Region.wanted o (yielded ops a.tmps) = true then Oper.wp P o a w K Q else E := by
  have hw : Region.wanted o (yielded ops a.tmps) = true := by simp [Region.wanted, hgd]
  rw [if_pos hw]
  obtain ⟨ad, c, w', hr, h1, h2, h3, h4, h5⟩ := run_append (P := P) (ty := o.type) z ht hi hzs hsz hown hs hbytes h63
  unfold Oper.wp execOp
  simp only [ho, resolve, invoke, builtin, Sem.run_bind, Sem.run_pure, Result.andThen_ok, List.map_toArray, List.map_cons, List.map_nil, hv, hr]
  exact h ad c w' h1 h2 h3 h4 h5

theorem step_enter (hgd : o.guard = none) (f : FuncId) (args : Array Value) (hrun : (execOp a.eval o).run P w = .ok (.enter f args) w) (v : Value) (R : World → Prop)
    (hc : Calls P f args w fun e w' => e = .returned v ∧ R w') (h : ∀ w', R w' → K (a.put o.dst v) w') : if Region.wanted o (yielded ops a.tmps) = true then Oper.wp P o a w K Q else E := by
  have hw : Region.wanted o (yielded ops a.tmps) = true := by simp [Region.wanted, hgd]
  rw [if_pos hw]
  unfold Oper.wp
  rw [hrun, Oper.upon_enter]
  refine hc.mono fun e w'' hh => ?_
  obtain ⟨rfl, hr⟩ := hh
  exact h _ hr
theorem run_enter0 {f : FuncId} {fn : Func} (ho : o.op = .call { callee := .value (.func f), args := #[], argTypes := #[] }) (hf : P.funcs[f]? = some fn) (hb : fn.body.isNone = false) (hn : (fn.name == "runtime.NumGoroutine") = false) :
    (execOp a.eval o).run P w = .ok (.enter f #[]) w := by
  have hn' : ¬ fn.name = "runtime.NumGoroutine" := by simpa using hn
  have hb' : ¬ fn.body = none := fun e => by rw [e] at hb; cases hb
  unfold execOp
  simp only [ho, resolve, invoke, Sem.run_bind]
  simp [Act.eval, go_sem]
  simp [callFunc, hf, hb', hn', Sem.run_bind]
end

theorem src_new {P : Program} {tx e' : TypeId} {size : Nat} (hk : P.underlying tx = some (.slice e')) (w : World) (T : TypeId) (cs : List Value) (m c : Nat) (hl : cs.length = m * size) (h1 : ∀ u ∈ cs, u.oneCell' = true) :
    Src P size tx (.slice (some ⟨w.heap.size, 0, none⟩) m c) m cs (w.alloc (.cells cs.toArray T)) := by
  refine Src.ofSlice _ hk _ m c cs hl ?_ h1
  intro j u hu
  rw [add_spot, (Blk.new w T cs).cell, Nat.zero_add]
  exact hu

theorem src_new' {P : Program} {tx e' : TypeId} {size : Nat} (hk : P.underlying tx = some (.slice e')) (w : World) (T : TypeId) (cs : List Value) (g m c : Nat) (hg : g = w.heap.size) (hl : cs.length = m * size) (h1 : ∀ u ∈ cs, u.oneCell' = true) :
    Src P size tx (.slice (some ⟨g, 0, none⟩) m c) m cs (w.alloc (.cells cs.toArray T)) := by
  subst hg
  exact src_new hk w T cs m c hl h1

theorem src_str {P : Program} {tx : TypeId} (hk : P.underlying tx = some .string) (w : World) (l : Bytes) : Src P 1 tx (.string ⟨l.toArray⟩) l.length (byts l) w := by
  have h := Src.ofString w hk ⟨l.toArray⟩
  have e1 : byteCells ⟨l.toArray⟩ = byts l := rfl
  have e2 : (⟨l.toArray⟩ : ByteArray).size = l.length := by simp [ByteArray.size]
  rw [e1, e2] at h
  exact h

structure NewSt (w wr : World) (T : TypeId) (p : Nat) (sv : Value) (k : Nat) (lv : Value) (e : TypeId) (xs : List Value) : Prop where
  st : Blk wr p T [sv, lv, intV 0]
  l : Own wr e 5 lv k xs
  np : p ∉ ownBlk lv
  nl : ∀ x ∈ ownBlk lv, w.heap.size ≤ x
  chg : Chg [] w wr
  new : w.heap.size ≤ p

theorem NewSt.on0 {w wr w2 : World} {T : TypeId} {p : Nat} {sv : Value} {k : Nat} {lv : Value} {e : TypeId} {xs : List Value} (h : NewSt w wr T p sv k lv e xs) (hc : Chg [] wr w2) : NewSt w w2 T p sv k lv e xs :=
  ⟨h.st.kept hc (by simp), h.l.kept hc (by simp), h.np, h.nl, h.chg.trans0 hc, h.new⟩
theorem NewSt.step {w wr w2 : World} {T : TypeId} {p : Nat} {sv : Value} {k m : Nat} {lv lv' : Value} {e : TypeId} {xs ys : List Value} (h : NewSt w wr T p sv k lv e xs) (hown : Own w2 e 5 lv' m ys) (hc : Chg (ownBlk lv) wr w2)
    (hg : ∀ x ∈ ownBlk lv', x ∈ ownBlk lv ∨ wr.heap.size ≤ x) : NewSt w (w2.setCell ⟨p, 1, none⟩ lv') T p sv m lv' e ys := by
  have hp := h.st.lt
  have hnp : p ∉ ownBlk lv' := fun hm => by
    rcases hg _ hm with h1 | h1
    · exact h.np h1
    · omega
  have hs := h.chg.size
  refine ⟨?_, hown.other _ _ hnp, hnp, fun x hx => ?_, ?_, h.new⟩
  · exact (h.st.kept hc h.np).set 1 lv'
  · rcases hg _ hx with h1 | h1
    · exact h.nl _ h1
    · omega
  · refine (h.chg.trans hc fun g hg' => .inr (h.nl g hg')).setCell _ _ (.inr h.new)

end Go.Proofs.YtjbpdgknhbnfgaaGreat

namespace Go.Proofs.YtjbpdgknhbnfgaaGreat
open Go.RowKit
set_option maxRecDepth 100000

theorem info_frame : (Tryz.prog.info? 150).map (fun i => (i.zero, i.size, i.bytes)) = some (some (frameV ⟨0, [], 0, false, false⟩), 5, 40) := by kernel_rfl
theorem framesCells_snoc (L : List Frame) (f : Frame) : framesCells (L ++ [f]) = framesCells L ++ f.cells := by simp [framesCells]

theorem empties_succ (k : Nat) : framesCells (List.replicate k Frame.empty) ++ [intV (-1), strV [], intV 0, .bool false, .bool false] = framesCells (List.replicate (k + 1) Frame.empty) := by
  rw [List.replicate_succ', framesCells_snoc]
  rfl

set_option maxHeartbeats 1000000 in
theorem pool_new_pool {w : World} {sb : StoreB} {S : Store} (h : StoreAt w sb S) (n : Nat) (h1 : 1 ≤ n) (h2 : n ≤ 32) :
    Calls Tryz.prog 54 #[ptrV sb.s, intV n] w fun e w' => ∃ b : PoolB, e = .returned (.tuple #[ptrV b.p, intV 0]) ∧ b.s = sb ∧ PoolAt w' b ⟨S, List.replicate n Frame.empty, 0⟩ ∧ Chg [] w w' ∧ ∀ k ∈ b.set, k ∈ sb.set ∨ w.heap.size ≤ k := by
  have HH := Lib.hid h
  have i1 : (1 : Int) ≤ (n : Int) := by omega
  have i2 : (n : Int) ≤ 32 := by omega
  have hst : NewSt w (w.alloc (.cells #[ptrV sb.s, .slice none 0 0, intV 0] 148)) 148 w.heap.size (ptrV sb.s) 0 (.slice none 0 0) 150 (framesCells (List.replicate 0 Frame.empty)) :=
    ⟨Blk.new w _ _, Own.nil _ _ _, by simp [ownBlk], by simp [ownBlk], (Chg.refl [] _).alloc _, Nat.le_refl _⟩
  have HS := Lib.hid hst
  have hem := fun (wr : World) => pool_empty wr
  have HEM := Lib.hid hem
  clear h hst hem
  go_enter Tryz.func54, Tryz.ntmps54
  go_wp2_with fail
  go_loopw [21] (fun i wr => ∃ (k : Nat) (lv : Value), k ≤ n ∧ i = .int .i64 k ∧ NewSt w wr 148 w.heap.size (ptrV sb.s) k lv 150 (framesCells (List.replicate k Frame.empty))) (fun i _ => n - (intOf i).toNat)
  case atStart => exact ⟨0, _, Nat.zero_le _, rfl, HS.out⟩
  case round =>
    obtain ⟨k, lv, hk, rfl, hs⟩ := hrel
    have k1 := hs.st.cell 1
    have k2 := hs.st.free 1
    simp at k1
    have HR := Lib.hid hs
    clear hs
    by_cases hlt : k < n
    · have hlt' : (k : Int) < (n : Int) := by omega
      have HKN := Lib.hid hlt
      clear hlt
      have hb1 : (k + 1) * 40 ≤ 140737488355328 := by omega
      have hb2 : k + 1 ≤ maxLen := by unfold maxLen; omega
      go_wp2_with fail
      go_region_law (first
        | ((refine step_append rfl _ _ _ _ (by with_reducible rfl) 150 5 40 _ Tryz.underlying146 info_frame (by rfl) (by omega) lv k 1 (framesCells (List.replicate k Frame.empty)) [intV (-1), strV [], intV 0, .bool false, .bool false] (by rfl) (by exact (H3.out.on0 ((Chg.refl [] _).alloc _)).l) (by exact src_new Tryz.underlying146 _ _ _ 1 1 rfl (Frame.cells_one Frame.empty)) hb1 hb2 ?_; intro ad c w4 hown hc4 hg4 hcm hnc; have OWN := Lib.hid hown; have C4 := Lib.hid hc4; have G4 := Lib.hid hg4; have k5 := ((H3.out.on0 ((Chg.refl [] _).alloc _)).st.kept hc4 H3.out.np).cell 1; have k6 := ((H3.out.on0 ((Chg.refl [] _).alloc _)).st.kept hc4 H3.out.np).free 1; simp at k5; clear hown hc4 hg4))
        | ((refine step_enter rfl 126 #[] (run_enter0 (by with_reducible rfl) Tryz.func126 rfl rfl) (.agg #[intV (-1), strV [], intV 0, .bool false, .bool false]) (fun w' => Chg [] _ w') (HEM.out _) ?_; intro w3 hc3; have H3 := Lib.hid ((HR.out.on0 ((Chg.refl [] _).drew)).on0 hc3); have k3 := H3.out.st.cell 1; have k4 := H3.out.st.free 1; simp at k3; have k3a := fun o => held_alloc k3 o; clear hc3)))
      all_goals
        go_wp2_with fail
        go_roundw
        case rel => exact ⟨k + 1, .slice ad (k + 1) c, by have := HKN.out; omega, by go_num, by rw [← empties_succ]; exact (H3.out.on0 ((Chg.refl [] _).alloc _)).step OWN.out C4.out G4.out⟩
        case measure => have := HKN.out; simp [intOf]; omega
    · obtain rfl : k = n := by omega
      go_wp2_with fail
      go_ret2
      obtain ⟨a1, a2, a3, a4, a5, a6⟩ := HR.out
      have hlt := HH.out.lt
      have hl : (List.replicate k Frame.empty).length = k := List.length_replicate
      refine ⟨⟨w.heap.size, sb, lv⟩, rfl, rfl, ⟨HH.out.kept a5 (by simp), ?_, a1, ⟨a3, fun hm => absurd (hlt w.heap.size hm) (Nat.lt_irrefl _)⟩, fun x hx hm => ?_, ?_, ?_, ?_⟩, a5, fun x hx => ?_⟩
      · show Own wr _ 5 lv (List.replicate k Frame.empty).length _
        rw [hl]; exact a2
      · have h6 := a4 _ hx; have := hlt _ hm; omega
      · show 0 < (List.replicate k Frame.empty).length
        omega
      · show (List.replicate k Frame.empty).length ≤ 32
        omega
      · show 0 < (List.replicate k Frame.empty).length
        omega
      · simp only [PoolB.set, List.mem_cons, List.mem_append] at hx
        rcases hx with rfl | hx | hx
        · exact .inr (Nat.le_refl _)
        · exact .inr (a4 _ hx)
        · exact .inl hx

end Go.Proofs.YtjbpdgknhbnfgaaGreat

namespace Go.Proofs.YtjbpdgknhbnfgaaGreat
open Go.RowKit
set_option maxRecDepth 100000

theorem info_rframe : (Tryz.prog.info? 88).map (fun i => (i.zero, i.size, i.bytes)) = some (some (frameV ⟨0, [], 0, false, false⟩), 5, 40) := by kernel_rfl

set_option maxHeartbeats 1000000 in
theorem ref15_new {w : World} (x n : Nat) (h2 : n ≤ 60000) :
    Calls Tryz.prog 110 #[ptrV x, intV n] w fun e w' => ∃ lv, e = .returned (ptrV w.heap.size) ∧ NewSt w w' 86 w.heap.size (ptrV x) n lv 88 (framesCells (List.replicate n Frame.empty)) := by
  have hst : NewSt w (w.alloc (.cells #[ptrV x, .slice none 0 0, intV 0] 86)) 86 w.heap.size (ptrV x) 0 (.slice none 0 0) 88 (framesCells (List.replicate 0 Frame.empty)) :=
    ⟨Blk.new w _ _, Own.nil _ _ _, by simp [ownBlk], by simp [ownBlk], (Chg.refl [] _).alloc _, Nat.le_refl _⟩
  have HS := Lib.hid hst
  clear hst
  go_enter Tryz.func110, Tryz.ntmps110
  go_wp2_with fail
  go_loopw [6] (fun i wr => ∃ (k : Nat) (lv : Value), k ≤ n ∧ i = .int .i64 k ∧ NewSt w wr 86 w.heap.size (ptrV x) k lv 88 (framesCells (List.replicate k Frame.empty))) (fun i _ => n - (intOf i).toNat)
  case atStart => exact ⟨0, _, Nat.zero_le _, rfl, HS.out⟩
  case round =>
    obtain ⟨k, lv, hk, rfl, hs⟩ := hrel
    have k1 := hs.st.cell 1
    have k2 := hs.st.free 1
    simp at k1
    have HR := Lib.hid hs
    clear hs
    by_cases hlt : k < n
    · have hlt' : (k : Int) < (n : Int) := by omega
      have HKN := Lib.hid hlt
      clear hlt
      have hb1 : (k + 1) * 40 ≤ 140737488355328 := by omega
      have hb2 : k + 1 ≤ maxLen := by unfold maxLen; omega
      go_wp2_with (refine wpList_append rfl (.tmp 19) (.tmp 21) 84 84 rfl 88 5 40 _ Tryz.underlying84 info_rframe (by rfl) (by omega) lv k 1 (framesCells (List.replicate k Frame.empty)) [intV (-1), strV [], intV 0, .bool false, .bool false] (by rfl) (by exact (HR.out.on0 ((Chg.refl [] _).alloc _)).l) (by exact src_new Tryz.underlying84 _ _ _ 1 1 rfl (Frame.cells_one Frame.empty)) hb1 hb2 ?_; intro ad c w4 hown hc4 hg4 hcm hnc; have OWN := Lib.hid hown; have C4 := Lib.hid hc4; have G4 := Lib.hid hg4; have k5 := ((HR.out.on0 ((Chg.refl [] _).alloc _)).st.kept hc4 HR.out.np).cell 1; have k6 := ((HR.out.on0 ((Chg.refl [] _).alloc _)).st.kept hc4 HR.out.np).free 1; simp at k5; clear hown hc4 hg4)
      go_roundw
      case rel => exact ⟨k + 1, .slice ad (k + 1) c, by have := HKN.out; omega, by go_num, by rw [← empties_succ]; exact (HR.out.on0 ((Chg.refl [] _).alloc _)).step OWN.out C4.out G4.out⟩
      case measure => have := HKN.out; simp [intOf]; omega
    · obtain rfl : k = n := by omega
      go_wp2_with fail
      go_ret
      exact ⟨lv, rfl, HR.out⟩

end Go.Proofs.YtjbpdgknhbnfgaaGreat
