/- A part of the walks of the program's functions, each a contract that its caller uses; no condition but what each theorem names. Plain Lean: what each call makes of a store's physical pages. Plain Lean: the pages of a commit: pages are taken, old parts leave, all turns. Plain Lean: a store and the document's store say the same. Plain Lean: New, Write, Drop, Read, Abort of both. -/
import Derived.Test.YtjbpdgknhbnfgaaGreatM7

namespace Go.Proofs.YtjbpdgknhbnfgaaGreat

theorem countP_setv {α : Type} (p : α → Bool) {m : List α} {n : Nat} {a b : α} (h : m[n]? = some a) : List.countP p (m.set n b) + (if p a then 1 else 0) = List.countP p m + (if p b then 1 else 0) := by
  induction m generalizing n with
  | nil => simp at h
  | cons c m ih =>
    cases n with
    | zero =>
      obtain rfl : c = a := by simpa using h
      simp only [List.set_cons_zero, List.countP_cons]
      omega
    | succ n =>
      have := ih (n := n) (by simpa using h)
      simp only [List.set_cons_succ, List.countP_cons]
      omega
theorem get_setv {m : List Int} {n : Nat} {a b : Int} (h : m[n]? = some a) (i : Nat) : (m.set n b)[i]? = if i = n then some b else m[i]? := by
  rw [List.getElem?_set]
  by_cases e : n = i
  · rw [if_pos e, if_pos (List.getElem?_eq_some_iff.1 h).1, if_pos e.symm]
  · rw [if_neg e, if_neg (fun e' => e e'.symm)]
theorem mem_setv {m : List Int} {n : Nat} {b x : Int} (h : x ∈ m.set n b) : x = b ∨ x ∈ m := by
  rcases List.mem_or_eq_of_mem_set h with h | h
  · exact .inr h
  · exact .inl h

theorem keptB_upd (N : NowF) (k : Nat) (x : Option (Bool × Bytes)) (i : Nat) : keptB (upd N k x) i = if i = k then isKept x else keptB N i := by
  unfold keptB upd
  by_cases h : i = k
  · rw [if_pos h, if_pos h]
  · rw [if_neg h, if_neg h]
theorem freshB_upd (N : NowF) (k : Nat) (x : Option (Bool × Bytes)) (i : Nat) : freshB (upd N k x) i = if i = k then isFresh x else freshB N i := by
  unfold freshB upd
  by_cases h : i = k
  · rw [if_pos h, if_pos h]
  · rw [if_neg h, if_neg h]

section
variable {pg : Nat} {m : List Int} {D : Disk} {ep : Int} {T Q : Nat → Int} {parts : List Int} {N : NowF} {O : OldF}

theorem Core.T_some (h : Core pg m D ep T Q parts N O) {i : Nat} (hi : 0 ≤ T i) : ∃ f b, N i = some (f, b) := by
  cases hN : N i with
  | none => have := h.now0 i hN; omega
  | some x => exact ⟨x.1, x.2, rfl⟩
theorem Core.Q_some (h : Core pg m D ep T Q parts N O) {i : Nat} (hi : 0 ≤ Q i) : ∃ b, O i = some b := by
  cases hO : O i with
  | none => have := h.old0 i hO; omega
  | some x => exact ⟨x, rfl⟩
/-- A free page is nobody's. -/
theorem Core.free_T (h : Core pg m D ep T Q parts N O) {n : Nat} (hm : m[n]? = some 0) (i : Nat) : T i ≠ n := fun e => by
  obtain ⟨f, b, hN⟩ := h.T_some (i := i) (by omega)
  obtain ⟨n', h1, -, h2, -⟩ := h.now1 i f b hN
  obtain rfl : n = n' := by omega
  rw [hm] at h2
  cases f <;> simp at h2
theorem Core.free_Q (h : Core pg m D ep T Q parts N O) {n : Nat} (hm : m[n]? = some 0) (i : Nat) : Q i ≠ n := fun e => by
  obtain ⟨b, hO⟩ := h.Q_some (i := i) (by omega)
  obtain ⟨n', h1, -, h2, -⟩ := h.old1 i b hO
  obtain rfl : n = n' := by omega
  rw [hm] at h2
  split at h2 <;> simp at h2

theorem Core.place (h : Core pg m D ep T Q parts N O) {k n : Nat} {b : Bytes} {D' : Disk} (hk : k < 512) (hN : N k = none) (hm : m[n]? = some 0) (hp : Pay D' n (ep + 1) b) (ho : ∀ x, x ≠ n → D'.area x = D.area x) :
    Core pg (m.set n 2) D' ep (upd T k n) Q parts (upd N k (some (true, b))) O := by
  have hK : ∀ i, keptB (upd N k (some (true, b))) i = keptB N i := fun i => by
    rw [keptB_upd]
    split
    · rename_i e
      subst e
      simp [keptB, isKept, hN]
    · rfl
  have hn : n < m.length := (List.getElem?_eq_some_iff.1 hm).1
  refine ⟨by rw [List.length_set]; exact h.len, fun x hx => ?_, fun i hi => ⟨?_, (h.far i hi).2⟩, fun i hi => ?_, fun i f c hi => ?_, h.old0, fun i c hi => ?_, fun i c hi => ?_, fun p hp' => ?_, fun i j he hi => ?_, h.injQ, h.pQ, h.nodup, ?_, ?_, ?_⟩
  · rcases mem_setv hx with rfl | hx
    · simp
    · exact h.all x hx
  · rw [upd_ne _ _ (by omega)]
    exact (h.far i hi).1
  · by_cases e : i = k
    · subst e; rw [upd_same] at hi; cases hi
    · rw [upd_ne _ _ e] at hi ⊢
      exact h.now0 i hi
  · by_cases e : i = k
    · subst e
      rw [upd_same] at hi ⊢
      obtain ⟨rfl, rfl⟩ : true = f ∧ b = c := by simpa using hi
      exact ⟨n, rfl, by have := h.len; omega, by rw [get_setv hm, if_pos rfl]; rfl, hp⟩
    · rw [upd_ne _ _ e] at hi ⊢
      obtain ⟨n', h1, h2, h3, h4⟩ := h.now1 i f c hi
      have hne : n' ≠ n := fun e' => h.free_T hm i (by rw [h1, e'])
      exact ⟨n', h1, h2, by rw [get_setv hm, if_neg hne]; exact h3, h4.keep (ho n' hne) (Int.le_refl _)⟩
  · obtain ⟨n', h1, h2, h3, h4⟩ := h.old1 i c hi
    have hne : n' ≠ n := fun e' => h.free_Q hm i (by rw [h1, e'])
    exact ⟨n', h1, h2, by rw [hK, get_setv hm, if_neg hne]; exact h3, h4.keep (ho n' hne) (Int.le_refl _)⟩
  · by_cases e : i = k
    · subst e; rw [upd_same] at hi; simp at hi
    · rw [upd_ne _ _ e] at hi ⊢
      exact h.link i c hi
  · obtain ⟨n', h1, h2, h3⟩ := h.part p hp'
    have hne : n' ≠ n := fun e' => by subst e'; rw [hm] at h3; simp at h3
    exact ⟨n', h1, h2, by rw [get_setv hm, if_neg hne]; exact h3⟩
  · by_cases e : i = k
    · by_cases e' : j = k
      · omega
      · subst e
        rw [upd_same, upd_ne _ _ e'] at he
        exact absurd he.symm (h.free_T hm j)
    · by_cases e' : j = k
      · subst e'
        rw [upd_same, upd_ne _ _ e] at he
        exact absurd he (h.free_T hm i)
      · rw [upd_ne _ _ e, upd_ne _ _ e'] at he
        rw [upd_ne _ _ e] at hi
        exact h.injT i j he hi
  · have := countP_setv (fun x : Int => x == 1) (b := 2) hm
    rw [C_same hK, ← h.c1]
    simpa using this
  · have := countP_setv (fun x : Int => x == 2) (b := 2) hm
    have hu := C_upd (p := freshB N) (q := freshB (upd N k (some (true, b)))) hk (fun i hi => by rw [freshB_upd, if_neg hi])
    rw [freshB_upd, if_pos rfl, show freshB N k = false by simp [freshB, isFresh, hN]] at hu
    have := h.c2
    simp at *
    omega
  · have := countP_setv (fun x : Int => x == 3) (b := 2) hm
    rw [C_same (p := leftB (upd N k (some (true, b))) O) (q := leftB N O) (fun i => by unfold leftB; rw [hK]), ← h.c3]
    simpa using this

theorem Core.over (h : Core pg m D ep T Q parts N O) {k n : Nat} {b0 b : Bytes} {D' : Disk} (hN : N k = some (true, b0)) (hT : T k = n) (hp : Pay D' n (ep + 1) b) (ho : ∀ x, x ≠ n → D'.area x = D.area x) :
    Core pg m D' ep T Q parts (upd N k (some (true, b))) O := by
  have hK : ∀ i, keptB (upd N k (some (true, b))) i = keptB N i := fun i => by
    rw [keptB_upd]
    split
    · rename_i e
      subst e
      simp [keptB, isKept, hN]
    · rfl
  have hF : ∀ i, freshB (upd N k (some (true, b))) i = freshB N i := fun i => by
    rw [freshB_upd]
    split
    · rename_i e
      subst e
      simp [freshB, isFresh, hN]
    · rfl
  obtain ⟨n0, h0, hpg, hm2, -⟩ := h.now1 k true b0 hN
  obtain rfl : n = n0 := by omega
  have hm2' : m[n]? = some 2 := hm2
  refine ⟨h.len, h.all, fun i hi => ⟨?_, (h.far i hi).2⟩, fun i hi => ?_, fun i f c hi => ?_, h.old0, fun i c hi => ?_, fun i c hi => ?_, h.part, h.injT, h.injQ, h.pQ, h.nodup, ?_, ?_, ?_⟩
  · have hne : i ≠ k := fun e => by
      subst e
      rw [(h.far i hi).1] at hN
      cases hN
    rw [upd_ne _ _ hne]
    exact (h.far i hi).1
  · by_cases e : i = k
    · subst e; rw [upd_same] at hi; cases hi
    · rw [upd_ne _ _ e] at hi
      exact h.now0 i hi
  · by_cases e : i = k
    · subst e
      rw [upd_same] at hi
      obtain ⟨rfl, rfl⟩ : true = f ∧ b = c := by simpa using hi
      exact ⟨n, hT, hpg, hm2, hp⟩
    · rw [upd_ne _ _ e] at hi
      obtain ⟨n', h1, h2, h3, h4⟩ := h.now1 i f c hi
      have hne : n' ≠ n := fun e' => e (h.injT i k (by omega) (by omega))
      exact ⟨n', h1, h2, h3, h4.keep (ho n' hne) (Int.le_refl _)⟩
  · obtain ⟨n', h1, h2, h3, h4⟩ := h.old1 i c hi
    have hne : n' ≠ n := fun e' => by
      subst e'
      rw [hm2'] at h3
      split at h3 <;> simp at h3
    exact ⟨n', h1, h2, by rw [hK]; exact h3, h4.keep (ho n' hne) (Int.le_refl _)⟩
  · by_cases e : i = k
    · subst e; rw [upd_same] at hi; simp at hi
    · rw [upd_ne _ _ e] at hi
      exact h.link i c hi
  · rw [C_same hK]; exact h.c1
  · rw [C_same hF]; exact h.c2
  · rw [C_same (p := leftB (upd N k (some (true, b))) O) (q := leftB N O) (fun i => by unfold leftB; rw [hK])]; exact h.c3

theorem Core.dropFresh (h : Core pg m D ep T Q parts N O) {k n : Nat} {b : Bytes} (hN : N k = some (true, b)) (hT : T k = n) :
    Core pg (m.set n 0) D ep (upd T k (-1)) Q parts (upd N k none) O := by
  have hk : k < 512 := by
    apply Classical.byContradiction
    intro hk
    rw [(h.far k (by omega)).1] at hN
    cases hN
  have hK : ∀ i, keptB (upd N k none) i = keptB N i := fun i => by
    rw [keptB_upd]
    split
    · rename_i e
      subst e
      simp [keptB, isKept, hN]
    · rfl
  obtain ⟨n0, h0, hpg, hm2, -⟩ := h.now1 k true b hN
  obtain rfl : n = n0 := by omega
  have hm : m[n]? = some 2 := hm2
  refine ⟨by rw [List.length_set]; exact h.len, fun x hx => ?_, fun i hi => ⟨?_, (h.far i hi).2⟩, fun i hi => ?_, fun i f c hi => ?_, h.old0, fun i c hi => ?_, fun i c hi => ?_, fun p hp' => ?_, fun i j he hi => ?_, h.injQ, h.pQ, h.nodup, ?_, ?_, ?_⟩
  · rcases mem_setv hx with rfl | hx
    · simp
    · exact h.all x hx
  · rw [upd_ne _ _ (by omega)]
    exact (h.far i hi).1
  · by_cases e : i = k
    · subst e; rw [upd_same]
    · rw [upd_ne _ _ e] at hi ⊢
      exact h.now0 i hi
  · by_cases e : i = k
    · subst e; rw [upd_same] at hi; cases hi
    · rw [upd_ne _ _ e] at hi ⊢
      obtain ⟨n', h1, h2, h3, h4⟩ := h.now1 i f c hi
      have hne : n' ≠ n := fun e' => e (h.injT i k (by omega) (by omega))
      exact ⟨n', h1, h2, by rw [get_setv hm, if_neg hne]; exact h3, h4⟩
  · obtain ⟨n', h1, h2, h3, h4⟩ := h.old1 i c hi
    have hne : n' ≠ n := fun e' => by
      subst e'
      rw [hm] at h3
      split at h3 <;> simp at h3
    exact ⟨n', h1, h2, by rw [hK, get_setv hm, if_neg hne]; exact h3, h4⟩
  · by_cases e : i = k
    · subst e; rw [upd_same] at hi; cases hi
    · rw [upd_ne _ _ e] at hi ⊢
      exact h.link i c hi
  · obtain ⟨n', h1, h2, h3⟩ := h.part p hp'
    have hne : n' ≠ n := fun e' => by subst e'; rw [hm] at h3; simp at h3
    exact ⟨n', h1, h2, by rw [get_setv hm, if_neg hne]; exact h3⟩
  · by_cases e : i = k
    · subst e; rw [upd_same] at hi; omega
    · rw [upd_ne _ _ e] at hi he
      by_cases e' : j = k
      · subst e'; rw [upd_same] at he; omega
      · rw [upd_ne _ _ e'] at he
        exact h.injT i j he hi
  · have := countP_setv (fun x : Int => x == 1) (b := 0) hm
    rw [C_same hK, ← h.c1]
    simpa using this
  · have := countP_setv (fun x : Int => x == 2) (b := 0) hm
    have hu := C_upd (p := freshB N) (q := freshB (upd N k none)) hk (fun i hi => by rw [freshB_upd, if_neg hi])
    rw [freshB_upd, if_pos rfl, show freshB N k = true by simp [freshB, isFresh, hN]] at hu
    have := h.c2
    simp at *
    omega
  · have := countP_setv (fun x : Int => x == 3) (b := 0) hm
    rw [C_same (p := leftB (upd N k none) O) (q := leftB N O) (fun i => by unfold leftB; rw [hK]), ← h.c3]
    simpa using this

theorem Core.dropKept (h : Core pg m D ep T Q parts N O) {k n : Nat} {b : Bytes} (hN : N k = some (false, b)) (hT : T k = n) :
    Core pg (m.set n 3) D ep (upd T k (-1)) Q parts (upd N k none) O := by
  have hk : k < 512 := by
    apply Classical.byContradiction
    intro hk
    rw [(h.far k (by omega)).1] at hN
    cases hN
  obtain ⟨l1, l2⟩ := h.link k b hN
  obtain ⟨n0, h0, hpg, hm2, -⟩ := h.now1 k false b hN
  obtain rfl : n = n0 := by omega
  have hm : m[n]? = some 1 := hm2
  have hF : ∀ i, freshB (upd N k none) i = freshB N i := fun i => by
    rw [freshB_upd]
    split
    · rename_i e
      subst e
      simp [freshB, isFresh, hN]
    · rfl
  refine ⟨by rw [List.length_set]; exact h.len, fun x hx => ?_, fun i hi => ⟨?_, (h.far i hi).2⟩, fun i hi => ?_, fun i f c hi => ?_, h.old0, fun i c hi => ?_, fun i c hi => ?_, fun p hp' => ?_, fun i j he hi => ?_, h.injQ, h.pQ, h.nodup, ?_, ?_, ?_⟩
  · rcases mem_setv hx with rfl | hx
    · simp
    · exact h.all x hx
  · rw [upd_ne _ _ (by omega)]
    exact (h.far i hi).1
  · by_cases e : i = k
    · subst e; rw [upd_same]
    · rw [upd_ne _ _ e] at hi ⊢
      exact h.now0 i hi
  · by_cases e : i = k
    · subst e; rw [upd_same] at hi; cases hi
    · rw [upd_ne _ _ e] at hi ⊢
      obtain ⟨n', h1, h2, h3, h4⟩ := h.now1 i f c hi
      have hne : n' ≠ n := fun e' => e (h.injT i k (by omega) (by omega))
      exact ⟨n', h1, h2, by rw [get_setv hm, if_neg hne]; exact h3, h4⟩
  · obtain ⟨n', h1, h2, h3, h4⟩ := h.old1 i c hi
    by_cases e : i = k
    · subst e
      obtain rfl : n' = n := by omega
      refine ⟨n', h1, h2, ?_, h4⟩
      rw [keptB_upd, if_pos rfl, get_setv hm, if_pos rfl]
      rfl
    · have hne : n' ≠ n := fun e' => e (h.injQ i k (by omega) (by omega))
      exact ⟨n', h1, h2, by rw [keptB_upd, if_neg e, get_setv hm, if_neg hne]; exact h3, h4⟩
  · by_cases e : i = k
    · subst e; rw [upd_same] at hi; cases hi
    · rw [upd_ne _ _ e] at hi ⊢
      exact h.link i c hi
  · obtain ⟨n', h1, h2, h3⟩ := h.part p hp'
    have hne : n' ≠ n := fun e' => h.pQ k (by omega) (by rw [← l1, hT, ← e', ← h1]; exact hp')
    exact ⟨n', h1, h2, by rw [get_setv hm, if_neg hne]; exact h3⟩
  · by_cases e : i = k
    · subst e; rw [upd_same] at hi; omega
    · rw [upd_ne _ _ e] at hi he
      by_cases e' : j = k
      · subst e'; rw [upd_same] at he; omega
      · rw [upd_ne _ _ e'] at he
        exact h.injT i j he hi
  · have := countP_setv (fun x : Int => x == 1) (b := 3) hm
    have hu := C_upd (p := keptB N) (q := keptB (upd N k none)) hk (fun i hi => by rw [keptB_upd, if_neg hi])
    rw [keptB_upd, if_pos rfl, show keptB N k = true by simp [keptB, isKept, hN]] at hu
    have := h.c1
    simp at *
    omega
  · have := countP_setv (fun x : Int => x == 2) (b := 3) hm
    rw [C_same hF, ← h.c2]
    simpa using this
  · have := countP_setv (fun x : Int => x == 3) (b := 3) hm
    have hu := C_upd (p := leftB N O) (q := leftB (upd N k none) O) hk (fun i hi => by unfold leftB; rw [keptB_upd, if_neg hi])
    rw [show leftB (upd N k none) O k = true by unfold leftB; rw [keptB_upd, if_pos rfl, l2]; rfl, show leftB N O k = false by unfold leftB; simp [keptB, isKept, hN]] at hu
    have := h.c3
    simp at *
    omega

theorem Core.abort (h : Core pg m D ep T Q parts N O) : Core pg (FMap.abort m) D ep Q Q parts (fun i => (O i).map fun b => (false, b)) O := by
  have hget : ∀ (n : Nat) x, m[n]? = some x → (FMap.abort m)[n]? = some (if x = 3 then 1 else if x = 2 then 0 else x) := fun n x hx => by
    unfold FMap.abort FMap.turn
    rw [List.getElem?_map, hx]
    rfl
  have hK : ∀ i, keptB (fun i => (O i).map fun b => (false, b)) i = (O i).isSome := fun i => by
    show isKept ((O i).map fun b => (false, b)) = _
    cases O i <;> rfl
  have hcnt : ∀ (p q : Int → Bool), (∀ x ∈ m, p (if x = 3 then 1 else if x = 2 then 0 else x) = q x) → List.countP p (FMap.abort m) = List.countP q m := fun p q hpq => by
    unfold FMap.abort FMap.turn
    rw [List.countP_map]
    apply List.countP_congr
    intro x hx
    have := hpq x hx
    simp only [Function.comp]
    rw [this]
  have hadd : ∀ (l : List Int), List.countP (fun x => x == 1 || x == 3) l = List.countP (fun x => x == 1) l + List.countP (fun x => x == 3) l := fun l => by
    induction l with
    | nil => rfl
    | cons x l ih =>
      simp only [List.countP_cons, ih]
      by_cases h1 : x = 1
      · subst h1; simp; omega
      · by_cases h3 : x = 3
        · subst h3; simp; omega
        · simp [h1, h3]
  refine ⟨by simp [FMap.abort, FMap.turn, h.len], fun x hx => ?_, fun i hi => ⟨by simp [(h.far i hi).2], (h.far i hi).2⟩, fun i hi => h.old0 i (by simpa using hi), fun i f b hi => ?_, h.old0, fun i b hi => ?_, fun i b hi => ⟨rfl, ?_⟩, fun p hp => ?_, h.injQ, h.injQ, h.pQ, h.nodup, ?_, ?_, ?_⟩
  · unfold FMap.abort FMap.turn at hx
    obtain ⟨y, hy, rfl⟩ := List.mem_map.1 hx
    rcases h.all y hy with rfl | rfl | rfl | rfl <;> simp
  · obtain ⟨c, hc, hfb⟩ : ∃ c, O i = some c ∧ (false, c) = (f, b) := by simpa using hi
    obtain ⟨rfl, rfl⟩ : false = f ∧ c = b := by simpa using hfb
    obtain ⟨n, h1, h2, h3, h4⟩ := h.old1 i c hc
    refine ⟨n, h1, h2, ?_, h4.keep rfl (by omega)⟩
    rw [hget n _ h3]
    split <;> simp
  · obtain ⟨n, h1, h2, h3, h4⟩ := h.old1 i b hi
    refine ⟨n, h1, h2, ?_, h4⟩
    rw [hget n _ h3, hK, hi]
    split <;> simp
  · obtain ⟨c, hc, hfb⟩ : ∃ c, O i = some c ∧ (false, c) = (false, b) := by simpa using hi
    obtain rfl : c = b := by simpa using hfb
    exact hc
  · obtain ⟨n, h1, h2, h3⟩ := h.part p hp
    exact ⟨n, h1, h2, by rw [hget n _ h3]; simp⟩
  · rw [hcnt (fun x => x == 1) (fun x => x == 1 || x == 3) (fun x hx => by rcases h.all x hx with rfl | rfl | rfl | rfl <;> rfl), hadd, h.c1, h.c3, C_same hK]
    have : C (fun i => (O i).isSome) = C (keptB N) + C (leftB N O) := C_add fun i => by
      unfold leftB
      cases hk : keptB N i with
      | false => cases (O i).isSome <;> rfl
      | true =>
        obtain ⟨b, hb⟩ := isKept_some hk
        rw [(h.link i b hb).2]
        rfl
    omega
  · rw [hcnt (fun x => x == 2) (fun _ => false) (fun x hx => by rcases h.all x hx with rfl | rfl | rfl | rfl <;> rfl), C_zero (fun i => by show isFresh ((O i).map fun b => (false, b)) = false; cases O i <;> rfl)]
    simp
  · rw [hcnt (fun x => x == 3) (fun _ => false) (fun x hx => by rcases h.all x hx with rfl | rfl | rfl | rfl <;> rfl), C_zero (fun i => by unfold leftB; rw [hK]; cases O i <;> rfl)]
    simp
end

end Go.Proofs.YtjbpdgknhbnfgaaGreat

namespace Go.Proofs.YtjbpdgknhbnfgaaGreat

def takes : Nat → List Int → List Int × List Int
  | 0, m => ([], m)
  | k + 1, m => (((FMap.first m : Nat) : Int) :: (takes k (List.set m (FMap.first m) 2)).1, (takes k (List.set m (FMap.first m) 2)).2)
def leaveAll (m : List Int) : List Int → List Int
  | [] => m
  | p :: l => leaveAll (FMap.leave m p).2 l

theorem first_free {m : List Int} (h : 0 < List.countP (fun x => x == 0) m) : FMap.first m < m.length ∧ m[FMap.first m]? = some 0 := by
  have hlt : FMap.first m < m.length := by
    apply List.findIdx_lt_length_of_exists
    apply Classical.byContradiction
    intro hn
    have : List.countP (fun x => x == 0) m = 0 := List.countP_eq_zero.2 fun a ha hb => hn ⟨a, ha, hb⟩
    omega
  have h0 := List.findIdx_getElem (w := hlt)
  have hz : m[FMap.first m] = 0 := eq_of_beq h0
  exact ⟨hlt, by rw [List.getElem?_eq_getElem hlt, hz]⟩

structure Takes (k : Nat) (m : List Int) (ids m' : List Int) : Prop where
  many : ids.length = k
  nodup : ids.Nodup
  was : ∀ p ∈ ids, ∃ n : Nat, p = n ∧ n < m.length ∧ m[n]? = some 0
  len : m'.length = m.length
  get : ∀ (n : Nat) x, m[n]? = some x → m'[n]? = some (if (n : Int) ∈ ids then 2 else x)
  c1 : List.countP (fun x => x == 1) m' = List.countP (fun x => x == 1) m
  c2 : List.countP (fun x => x == 2) m' = List.countP (fun x => x == 2) m + k
  c3 : List.countP (fun x => x == 3) m' = List.countP (fun x => x == 3) m
  all : ∀ x ∈ m', x = 2 ∨ x ∈ m

theorem takes_ok : ∀ (k : Nat) (m : List Int), k ≤ List.countP (fun x => x == 0) m → Takes k m (takes k m).1 (takes k m).2
  | 0, m, _ => ⟨rfl, List.nodup_nil, fun p hp => by simp [takes] at hp, rfl, fun n x hx => by simpa [takes] using hx, rfl, rfl, rfl, fun x hx => .inr hx⟩
  | k + 1, m, hk => by
    obtain ⟨h1, h2⟩ := first_free (m := m) (by omega)
    obtain ⟨n0, hn0⟩ : ∃ n, n = FMap.first m := ⟨_, rfl⟩
    rw [← hn0] at h1 h2
    have e0 := countP_setv (fun x : Int => x == 0) (b := 2) h2
    have e1 := countP_setv (fun x : Int => x == 1) (b := 2) h2
    have e2 := countP_setv (fun x : Int => x == 2) (b := 2) h2
    have e3 := countP_setv (fun x : Int => x == 3) (b := 2) h2
    simp at e0 e1 e2 e3
    obtain ⟨i1, i2, i3, i4, i5, i6, i7, i8, i9⟩ := takes_ok k (m.set n0 2) (by omega)
    have hun : takes (k + 1) m = (((n0 : Nat) : Int) :: (takes k (m.set n0 2)).1, (takes k (m.set n0 2)).2) := by
      rw [hn0]; rfl
    rw [hun]
    generalize takes k (m.set n0 2) = t at *
    dsimp only
    have hnot : (n0 : Int) ∉ t.1 := fun hm => by
      obtain ⟨n, h3, h4, h5⟩ := i3 _ hm
      obtain rfl : n0 = n := by omega
      rw [get_setv h2, if_pos rfl] at h5
      simp at h5
    refine ⟨by simp [i1], List.nodup_cons.2 ⟨hnot, i2⟩, fun p hp => ?_, by rw [i4, List.length_set], fun n x hx => ?_, by rw [i6]; omega, by rw [i7]; omega, by rw [i8]; omega, fun x hx => ?_⟩
    · rcases List.mem_cons.1 hp with rfl | hp
      · exact ⟨n0, rfl, h1, h2⟩
      · obtain ⟨n, h3, h4, h5⟩ := i3 p hp
        rw [List.length_set] at h4
        rw [get_setv h2] at h5
        split at h5
        · simp at h5
        · exact ⟨n, h3, h4, h5⟩
    · by_cases e : n = n0
      · subst e
        rw [if_pos (by simp)]
        have := i5 n 2 (by rw [get_setv h2, if_pos rfl])
        rw [if_neg hnot] at this
        exact this
      · have := i5 n x (by rw [get_setv h2, if_neg e]; exact hx)
        rw [this]
        have hiff : ((n : Int) ∈ ((n0 : Int) :: t.1)) ↔ (n : Int) ∈ t.1 := by
          rw [List.mem_cons]
          exact ⟨fun h => h.resolve_left (by omega), .inr⟩
        simp only [hiff]
    · rcases i9 x hx with h | h
      · exact .inl h
      · exact mem_setv h

theorem takes_eq (k : Nat) (m : List Int) (h : k + 1 ≤ List.countP (fun x => x == 0) m) : FMap.take m = (((FMap.first m : Nat) : Int), 0, List.set m (FMap.first m) 2) := by
  obtain ⟨h1, h2⟩ := first_free (m := m) (by omega)
  unfold FMap.take
  rw [if_pos h1]

structure Left (m : List Int) (ps m' : List Int) : Prop where
  len : m'.length = m.length
  get : ∀ (n : Nat) x, m[n]? = some x → m'[n]? = some (if (n : Int) ∈ ps then 3 else x)
  c1 : List.countP (fun x => x == 1) m' + ps.length = List.countP (fun x => x == 1) m
  c2 : List.countP (fun x => x == 2) m' = List.countP (fun x => x == 2) m
  all : ∀ x ∈ m', x = 3 ∨ x ∈ m

theorem leave_one {m : List Int} {n : Nat} (h : m[n]? = some 1) : FMap.leave m n = (0, List.set m n 3) := by
  have hn := (List.getElem?_eq_some_iff.1 h).1
  unfold FMap.leave
  rw [FMap.at_of hn, if_neg (by simp), FMap.kind_of hn, (List.getElem?_eq_some_iff.1 h).2, if_neg (by omega), if_pos rfl, Int.toNat_natCast]

theorem leaveAll_ok : ∀ (ps : List Int) (m : List Int), ps.Nodup → (∀ p ∈ ps, ∃ n : Nat, p = n ∧ m[n]? = some 1) → Left m ps (leaveAll m ps)
  | [], m, _, _ => ⟨rfl, fun n x hx => by simpa [leaveAll] using hx, rfl, rfl, fun x hx => .inr hx⟩
  | p :: ps, m, hnd, hall => by
    obtain ⟨n0, rfl, h2⟩ := hall p (by simp)
    obtain ⟨hn1, hn2⟩ := List.nodup_cons.1 hnd
    have e1 := countP_setv (fun x : Int => x == 1) (b := 3) h2
    have e2 := countP_setv (fun x : Int => x == 2) (b := 3) h2
    simp at e1 e2
    have hun : leaveAll m ((n0 : Int) :: ps) = leaveAll (m.set n0 3) ps := by
      show leaveAll (FMap.leave m n0).2 ps = _
      rw [leave_one h2]
    obtain ⟨i1, i2, i3, i4, i5⟩ := leaveAll_ok ps (m.set n0 3) hn2 (fun q hq => by
      obtain ⟨n, h3, h4⟩ := hall q (by simp [hq])
      refine ⟨n, h3, ?_⟩
      rw [get_setv h2, if_neg (fun e => by subst e; subst h3; exact hn1 hq)]
      exact h4)
    rw [hun]
    refine ⟨by rw [i1, List.length_set], fun n x hx => ?_, by rw [List.length_cons]; omega, by rw [i4]; omega, fun x hx => ?_⟩
    · by_cases e : n = n0
      · subst e
        rw [if_pos (by simp)]
        have := i2 n 3 (by rw [get_setv h2, if_pos rfl])
        rw [if_neg hn1] at this
        exact this
      · have := i2 n x (by rw [get_setv h2, if_neg e]; exact hx)
        rw [this]
        have hiff : ((n : Int) ∈ ((n0 : Int) :: ps)) ↔ (n : Int) ∈ ps := by
          rw [List.mem_cons]
          exact ⟨fun h => h.resolve_left (by omega), .inr⟩
        simp only [hiff]
    · rcases i5 x hx with h | h
      · exact .inl h
      · exact mem_setv h

section
variable {pg : Nat} {m : List Int} {D : Disk} {ep : Int} {T Q : Nat → Int} {parts : List Int} {N : NowF} {O : OldF}

theorem Core.commit (h : Core pg m D ep T Q parts N O) {k : Nat} {ids m1 : List Int} {D' : Disk} (ht : Takes k m ids m1) (ho : ∀ x : Nat, (x : Int) ∉ ids → D'.area x = D.area x) :
    Core pg (FMap.commit (leaveAll m1 parts)) D' (ep + 1) T T ids (fun i => (N i).map fun x => (false, x.2)) (fun i => (N i).map Prod.snd) := by
  have hpn : ∀ p ∈ parts, p ∉ ids := fun p hp hi => by
    obtain ⟨n, e, -, h1⟩ := h.part p hp
    obtain ⟨n', e', -, h2⟩ := ht.was p hi
    obtain rfl : n = n' := by omega
    rw [h1] at h2
    simp at h2
  have hl := leaveAll_ok parts m1 h.nodup (fun p hp => by
    obtain ⟨n, e, -, h1⟩ := h.part p hp
    refine ⟨n, e, ?_⟩
    rw [ht.get n 1 h1, if_neg (e ▸ hpn p hp)])
  have hall1 : ∀ x ∈ leaveAll m1 parts, x = 0 ∨ x = 1 ∨ x = 2 ∨ x = 3 := fun x hx => by
    rcases hl.all x hx with rfl | h1
    · simp
    · rcases ht.all x h1 with rfl | h2
      · simp
      · exact h.all x h2
  -- what becomes of a page
  have hget : ∀ (n : Nat) x, m[n]? = some x → (n : Int) ∉ ids → (n : Int) ∉ parts → (FMap.commit (leaveAll m1 parts))[n]? = some (if x = 3 then 0 else if x = 2 then 1 else x) := fun n x hx h1 h2 => by
    unfold FMap.commit FMap.turn
    have e1 := ht.get n x hx
    rw [if_neg h1] at e1
    have e2 := hl.get n x e1
    rw [if_neg h2] at e2
    rw [List.getElem?_map, e2]
    rfl
  have hgetI : ∀ (n : Nat), m[n]? = some 0 → (n : Int) ∈ ids → (FMap.commit (leaveAll m1 parts))[n]? = some 1 := fun n hx h1 => by
    unfold FMap.commit FMap.turn
    have e1 := ht.get n 0 hx
    rw [if_pos h1] at e1
    have e2 := hl.get n 2 e1
    rw [if_neg (fun hp => hpn _ hp h1)] at e2
    rw [List.getElem?_map, e2]
    rfl
  have hcnt : ∀ (p q : Int → Bool), (∀ x ∈ leaveAll m1 parts, p (if x = 3 then 0 else if x = 2 then 1 else x) = q x) → List.countP p (FMap.commit (leaveAll m1 parts)) = List.countP q (leaveAll m1 parts) := fun p q hpq => by
    unfold FMap.commit FMap.turn
    rw [List.countP_map]
    apply List.countP_congr
    intro x hx
    have := hpq x hx
    simp only [Function.comp]
    rw [this]
  have hadd : ∀ (l : List Int), List.countP (fun x => x == 1 || x == 2) l = List.countP (fun x => x == 1) l + List.countP (fun x => x == 2) l := fun l => by
    induction l with
    | nil => rfl
    | cons x l ih =>
      simp only [List.countP_cons, ih]
      by_cases h1 : x = 1
      · subst h1; simp; omega
      · by_cases h3 : x = 2
        · subst h3; simp; omega
        · simp [h1, h3]
  have hidT : ∀ i (n : Nat), T i = n → (n : Int) ∉ ids := fun i n e hi => by
    obtain ⟨n', e', -, h2⟩ := ht.was _ hi
    obtain rfl : n = n' := by omega
    exact h.free_T h2 i e
  have hpT : ∀ i (n : Nat), T i = n → (n : Int) ∉ parts := fun i n e hp => by
    obtain ⟨f, b, hN⟩ := h.T_some (i := i) (by omega)
    obtain ⟨n', h1, -, h2, -⟩ := h.now1 i f b hN
    obtain rfl : n = n' := by omega
    cases f with
    | true =>
      obtain ⟨n2, e2, -, h3⟩ := h.part _ hp
      obtain rfl : n = n2 := by omega
      rw [h2] at h3
      simp at h3
    | false =>
      obtain ⟨l1, -⟩ := h.link i b hN
      exact h.pQ i (by omega) (by rw [← l1, e]; exact hp)
  have hpage : ∀ i f b, N i = some (f, b) → ∃ n : Nat, T i = n ∧ n < pg ∧ (FMap.commit (leaveAll m1 parts))[n]? = some 1 ∧ Pay D' n (ep + 1) b := fun i f b hN => by
    obtain ⟨n, h1, h2, h3, h4⟩ := h.now1 i f b hN
    have hi := hidT i n h1
    refine ⟨n, h1, h2, ?_, h4.keep (ho n hi) (Int.le_refl _)⟩
    rw [hget n _ h3 hi (hpT i n h1)]
    cases f <;> rfl
  have hK : ∀ i, keptB (fun i => (N i).map fun x => (false, x.2)) i = (N i).isSome := fun i => by
    show isKept ((N i).map fun x => (false, x.2)) = _
    cases N i <;> rfl
  refine ⟨?_, fun x hx => ?_, fun i hi => by simp [(h.far i hi).1], fun i hi => h.now0 i (by simpa using hi), fun i f b hi => ?_, fun i hi => h.now0 i (by simpa using hi), fun i b hi => ?_, fun i b hi => ⟨rfl, ?_⟩, fun p hp => ?_, h.injT, h.injT, fun i hi hm => ?_, ht.nodup, ?_, ?_, ?_⟩
  · simp [FMap.commit, FMap.turn, hl.len, ht.len, h.len]
  · unfold FMap.commit FMap.turn at hx
    obtain ⟨y, hy, rfl⟩ := List.mem_map.1 hx
    rcases hall1 y hy with rfl | rfl | rfl | rfl <;> simp
  · cases hN : N i with
    | none => rw [hN] at hi; cases hi
    | some x =>
      rw [hN] at hi
      obtain ⟨rfl, rfl⟩ : false = f ∧ x.2 = b := by simpa using hi
      obtain ⟨n, h1, h2, h3, h4⟩ := hpage i x.1 x.2 hN
      exact ⟨n, h1, h2, h3, h4.keep rfl (by omega)⟩
  · cases hN : N i with
    | none => rw [hN] at hi; cases hi
    | some x =>
      rw [hN] at hi
      obtain rfl : x.2 = b := by simpa using hi
      obtain ⟨n, h1, h2, h3, h4⟩ := hpage i x.1 x.2 hN
      exact ⟨n, h1, h2, by rw [hK, hN]; exact h3, h4⟩
  · cases hN : N i with
    | none => rw [hN] at hi; cases hi
    | some x =>
      rw [hN] at hi
      obtain rfl : x.2 = b := by simpa using hi
      rfl
  · obtain ⟨n, e, h1, h2⟩ := ht.was p hp
    exact ⟨n, e, by rw [← h.len]; exact h1, hgetI n h2 (e ▸ hp)⟩
  · obtain ⟨n, e⟩ : ∃ n : Nat, T i = n := ⟨(T i).toNat, by omega⟩
    exact hidT i n e (e ▸ hm)
  · rw [hcnt (fun x => x == 1) (fun x => x == 1 || x == 2) (fun x hx => by rcases hall1 x hx with rfl | rfl | rfl | rfl <;> rfl), hadd, C_same hK]
    have h1 := hl.c1
    have h2 := hl.c2
    have h3 := ht.c1
    have h4 := ht.c2
    have h5 := h.c1
    have h6 := h.c2
    have h7 := ht.many
    have : C (fun i => (N i).isSome) = C (keptB N) + C (freshB N) := C_add fun i => by
      unfold keptB freshB
      cases N i with
      | none => rfl
      | some x => obtain ⟨f, b⟩ := x; cases f <;> rfl
    omega
  · rw [hcnt (fun x => x == 2) (fun _ => false) (fun x hx => by rcases hall1 x hx with rfl | rfl | rfl | rfl <;> rfl), C_zero (fun i => by show isFresh ((N i).map fun x => (false, x.2)) = false; cases N i <;> rfl)]
    simp
  · rw [hcnt (fun x => x == 3) (fun _ => false) (fun x hx => by rcases hall1 x hx with rfl | rfl | rfl | rfl <;> rfl), C_zero (fun i => by unfold leftB; rw [hK]; show (((N i).map Prod.snd).isSome && !(N i).isSome) = false; cases N i <;> rfl)]
    simp
end

end Go.Proofs.YtjbpdgknhbnfgaaGreat

namespace Go.Proofs.YtjbpdgknhbnfgaaGreat

theorem findIdx_least {α : Type} (p : α → Bool) (d : α) (hd : p d = true) : ∀ (L : List α) (k : Nat), (∀ j, j < k → p (L.getD j d) = false) → p (L.getD k d) = true → L.findIdx p = min k L.length
  | [], k, _, _ => by simp
  | x :: L, 0, _, h2 => by
    have h2' : p x = true := h2
    simp [List.findIdx_cons, h2']
  | x :: L, k + 1, h1, h2 => by
    have h0 : p x = false := h1 0 (by omega)
    have ih := findIdx_least p d hd L k (fun j hj => h1 (j + 1) (by omega)) h2
    rw [List.findIdx_cons, h0]
    simp only [cond_false, ih, List.length_cons]
    omega

namespace Ref
theorem setL_slot (l : List RSlot) (i : Nat) (x : RSlot) (j : Nat) : slot (setL l i x) j = if j = i then x else slot l j := by
  unfold slot setL
  have hlen : i < (l ++ List.replicate (i + 1 - l.length) RSlot.none).length := by simp; omega
  have hg : ∀ (L : List RSlot), L.getD j RSlot.none = (L[j]?).getD RSlot.none := fun L => rfl
  rw [hg, hg, List.getElem?_set]
  by_cases h : i = j
  · subst h
    rw [if_pos rfl, if_pos rfl, if_pos hlen]
    rfl
  · rw [if_neg h, if_neg (fun e => h e.symm)]
    by_cases h2 : j < l.length
    · rw [List.getElem?_append_left h2]
    · rw [List.getElem?_append_right (by omega), List.getElem?_eq_none (l := l) (by omega)]
      by_cases h3 : j - l.length < i + 1 - l.length
      · rw [List.getElem?_replicate, if_pos h3]; rfl
      · rw [List.getElem?_replicate, if_neg h3]
theorem setL_length (l : List RSlot) (i : Nat) (x : RSlot) : (setL l i x).length = max l.length (i + 1) := by
  unfold setL
  simp
  omega
theorem nowF_setL (l : List RSlot) (i : Nat) (x : RSlot) : nowF (setL l i x) = upd (nowF l) i (if x.is then some (x.fresh, x.b) else none) := by
  funext j
  unfold nowF upd
  rw [setL_slot]
  by_cases h : j = i
  · rw [if_pos h, if_pos h]
  · rw [if_neg h, if_neg h]
theorem at_nat (r : Ref) (l : Int) : r.at_ l = true ↔ ∃ i : Nat, l = i ∧ nowF r.now i ≠ none := by
  unfold at_ nowF
  simp only [Bool.and_eq_true, decide_eq_true_eq]
  constructor
  · rintro ⟨⟨h1, h2⟩, h3⟩
    refine ⟨l.toNat, by omega, ?_⟩
    rw [if_pos h3]
    simp
  · rintro ⟨i, rfl, h⟩
    rw [Int.toNat_natCast]
    by_cases h3 : (slot r.now i).is = true
    · refine ⟨⟨by omega, ?_⟩, h3⟩
      apply Classical.byContradiction
      intro hn
      have : slot r.now i = RSlot.none := by
        unfold slot
        rw [List.getD, List.getElem?_eq_none (by omega)]
        rfl
      rw [this] at h3
      cases h3
    · rw [if_neg h3] at h
      exact absurd rfl h
theorem slot_far {l : List RSlot} {i : Nat} (h : l.length ≤ i) : slot l i = RSlot.none := by
  unfold slot
  rw [List.getD, List.getElem?_eq_none h]
  rfl
theorem nowF_is (l : List RSlot) (i : Nat) : (nowF l i).isNone = !(slot l i).is := by
  unfold nowF
  cases (slot l i).is <;> rfl
theorem freshN_eq (r : Ref) (h : r.now.length ≤ 512) : r.freshN = C (freshB (nowF r.now)) := by
  unfold freshN
  rw [countP_list 512 r.now RSlot.none _ rfl h]
  apply C_same
  intro i
  unfold freshB nowF slot
  cases (r.now.getD i RSlot.none).is <;> cases (r.now.getD i RSlot.none).fresh <;> rfl
theorem there_eq (l : List RSlot) (h : l.length ≤ 512) : there l = C (fun i => (oldF l i).isSome) := by
  unfold there
  rw [countP_list 512 l RSlot.none _ rfl h]
  apply C_same
  intro i
  unfold oldF slot
  cases (l.getD i RSlot.none).is <;> rfl
theorem countP_range_more : ∀ (n k : Nat) (p : Nat → Bool), (∀ i, n ≤ i → p i = false) → (List.range (n + k)).countP p = (List.range n).countP p
  | _, 0, _, _ => rfl
  | n, k + 1, p, h => by
    rw [← Nat.add_assoc, List.range_succ, List.countP_append, countP_range_more n k p h]
    simp [h (n + k) (by omega)]
theorem leaving_eq (r : Ref) (h : r.old.length ≤ 512) : r.leaving = C (leftB (nowF r.now) (oldF r.old)) := by
  unfold leaving C
  obtain ⟨k, hk⟩ : ∃ k, 512 = r.old.length + k := ⟨512 - r.old.length, by omega⟩
  rw [hk, countP_range_more r.old.length k _ (fun i hi => by unfold leftB oldF; rw [slot_far hi]; rfl)]
  apply countP_range_same
  intro i _
  unfold leftB keptB oldF nowF
  by_cases h2 : r.now.length ≤ i
  · rw [slot_far h2]
    cases (slot r.old i).is <;> simp [h2, RSlot.none]
  · cases (slot r.old i).is <;> cases (slot r.now i).is <;> cases (slot r.now i).fresh <;> simp [h2]
end Ref

theorem tabF_set (t : List Int) (k : Nat) (x : Int) (h : k < t.length) : tabF (t.set k x) = upd (tabF t) k x := by
  funext j
  show (t.set k x).getD j (-1) = if j = k then x else t.getD j (-1)
  have hg : ∀ (L : List Int), L.getD j (-1) = (L[j]?).getD (-1) := fun L => rfl
  rw [hg, hg, List.getElem?_set]
  by_cases e : k = j
  · subst e
    rw [if_pos rfl, if_pos rfl, if_pos h]
    rfl
  · rw [if_neg e, if_neg (fun e' => e e'.symm)]
theorem tabF_putAt (t : List Int) (k : Nat) (x : Int) (h : k ≤ t.length) : tabF (putAt t k x) = upd (tabF t) k x := by
  funext j
  show (putAt t k x).getD j (-1) = if j = k then x else t.getD j (-1)
  have hg : ∀ (L : List Int), L.getD j (-1) = (L[j]?).getD (-1) := fun L => rfl
  rw [hg, hg, putAt_get _ _ _ h]
  by_cases e : j = k
  · rw [if_pos e, if_pos e]; rfl
  · rw [if_neg e, if_neg e]

/-- The two sectors of the roots, and the parts of the committed table. -/
structure Rooted (S : Store) : Prop where
  sl : S.slot = 0 ∨ S.slot = 1
  here : rootGet (Disk.sector S.d.now S.slot.toNat) = some ⟨S.epoch, S.old.length, S.parts⟩
  other : ∀ x, rootGet (Disk.sector S.d.now (1 - S.slot).toNat) = some x → x.epoch < S.epoch
  part : ∀ (i : Nat) p, S.parts[i]? = some p → ∃ (n : Nat) (e : Int) (b : Bytes), p = n ∧ e ≤ S.epoch ∧ pageGet (S.d.area n) = (⟨n, e, 1, b⟩, 0) ∧ getPart b (min 116 (S.old.length - 116 * (i : Int))) = ((S.old.drop (116 * i)).take 116, 0)

structure Store.Rel (S : Store) (r : Ref) : Prop where
  ok : S.Ok
  up : S.d.Up
  pos : 1 ≤ S.d.pages
  br : S.broken = false
  many : (S.d.pages : Int) = r.many
  ep : S.epoch = r.epoch
  ep1 : 1 ≤ S.epoch
  core : Core S.d.pages S.m S.d S.epoch (tabF S.table) (tabF S.old) S.parts (Ref.nowF r.now) (Ref.oldF r.old)
  nl : r.now.length ≤ 512
  ol : S.old.length = r.old.length
  ol2 : r.old.length ≤ 512
  olo : ∀ p ∈ S.old, -1 ≤ p ∧ p < S.d.pages
  pl : (S.parts.length : Int) = rootNeed S.old.length
  rt : Rooted S

theorem sum4 (m : List Int) (h : ∀ x ∈ m, x = 0 ∨ x = 1 ∨ x = 2 ∨ x = 3) : m.length = List.countP (fun x => x == 0) m + List.countP (fun x => x == 1) m + List.countP (fun x => x == 2) m + List.countP (fun x => x == 3) m := by
  induction m with
  | nil => rfl
  | cons x m ih =>
    have := ih fun y hy => h y (by simp [hy])
    simp only [List.countP_cons, List.length_cons]
    rcases h x (by simp) with rfl | rfl | rfl | rfl <;> simp <;> omega

theorem Store.Rel.kept {S : Store} {r : Ref} (h : S.Rel r) : r.kept = (List.countP (fun x => x == 1) S.m + List.countP (fun x => x == 3) S.m : Nat) := by
  unfold Ref.kept
  rw [Ref.there_eq _ h.ol2, h.core.c1, h.core.c3, ← h.ol, ← h.pl]
  have : C (fun i => (Ref.oldF r.old i).isSome) = C (keptB (Ref.nowF r.now)) + C (leftB (Ref.nowF r.now) (Ref.oldF r.old)) := C_add fun i => by
    unfold leftB
    cases hk : keptB (Ref.nowF r.now) i with
    | false => cases (Ref.oldF r.old i).isSome <;> rfl
    | true =>
      obtain ⟨b, hb⟩ := isKept_some hk
      rw [(h.core.link i b hb).2]
      rfl
  rw [this]
  omega
theorem Store.Rel.free {S : Store} {r : Ref} (h : S.Rel r) : (List.countP (fun x => x == 0) S.m : Int) = r.free := by
  unfold Ref.free
  rw [h.kept, Ref.freshN_eq r h.nl, ← h.core.c2, ← h.many]
  have := sum4 S.m h.core.all
  have := h.core.len
  omega

/-! where a logical page lies -/
theorem Store.Rel.tab_some {S : Store} {r : Ref} (h : S.Rel r) {i : Nat} {f : Bool} {b : Bytes} (hN : Ref.nowF r.now i = some (f, b)) :
    ∃ n : Nat, S.tab i = n ∧ tabF S.table i = n ∧ i < S.table.length ∧ n < S.d.pages ∧ S.m[n]? = some (if f then 2 else 1) ∧ Pay S.d n (S.epoch + 1) b := by
  obtain ⟨n, h1, h2, h3, h4⟩ := h.core.now1 i f b hN
  have hi : i < S.table.length := by
    apply Classical.byContradiction
    intro hn
    unfold tabF at h1
    rw [List.getD, List.getElem?_eq_none (by omega)] at h1
    have : (-1 : Int) = n := h1
    omega
  refine ⟨n, ?_, h1, hi, h2, h3, h4⟩
  unfold Store.tab
  rw [Int.toNat_natCast]
  exact h1
theorem Store.Rel.at_yes {S : Store} {r : Ref} (h : S.Rel r) {i : Nat} (hN : Ref.nowF r.now i ≠ none) : S.at_ i = 0 := by
  cases hx : Ref.nowF r.now i with
  | none => exact absurd hx hN
  | some x =>
    obtain ⟨n, h1, -, h2, -⟩ := h.tab_some (f := x.1) (b := x.2) hx
    unfold Store.at_
    rw [if_neg (by rw [h.br]; simp), if_neg (by rw [h1]; omega)]
theorem Store.Rel.at_no {S : Store} {r : Ref} (h : S.Rel r) {l : Int} (ha : r.at_ l = false) : S.at_ l = 3 := by
  unfold Store.at_
  rw [if_neg (by rw [h.br]; simp)]
  split
  · rfl
  · rename_i hc
    obtain ⟨i, rfl⟩ : ∃ i : Nat, l = i := ⟨l.toNat, by omega⟩
    exfalso
    have hN : Ref.nowF r.now i = none := by
      apply Classical.byContradiction
      intro hn
      have := (Ref.at_nat r i).2 ⟨i, rfl, hn⟩
      rw [ha] at this
      cases this
    have := h.core.now0 i hN
    have h2 : S.tab i = tabF S.table i := by unfold Store.tab tabF; rw [Int.toNat_natCast]
    omega

theorem Store.Rel.hole {S : Store} {r : Ref} (h : S.Rel r) : (r.hole < 512 → Ref.nowF r.now r.hole = none) ∧ (S.hole < 512 ∨ r.hole < 512 → S.hole = r.hole ∧ r.hole ≤ S.table.length) ∧ (512 ≤ S.hole ↔ 512 ≤ r.hole) := by
  have hr0 : Ref.nowF r.now r.hole = none := by
    have h1 := Ref.nowF_is r.now r.hole
    have h2 : (Ref.slot r.now r.hole).is = false := by
      by_cases hl : r.hole < r.now.length
      · have hw := List.findIdx_getElem (w := (hl : r.now.findIdx (fun x => !x.is) < r.now.length))
        have e : Ref.slot r.now r.hole = r.now[r.hole] := by simp [Ref.slot, List.getD, hl]
        rw [e]
        have hw' : (!r.now[r.hole].is) = true := hw
        simpa using hw'
      · rw [Ref.slot_far (by omega)]; rfl
    rw [h2] at h1
    simpa using h1
  have hrj : ∀ j, j < r.hole → Ref.nowF r.now j ≠ none := fun j hj e => by
    have h1 := Ref.nowF_is r.now j
    have hl : j < r.now.length := Nat.lt_of_lt_of_le hj List.findIdx_le_length
    have hw := List.not_of_lt_findIdx (p := fun x : RSlot => !x.is) (xs := r.now) hj
    have e2 : Ref.slot r.now j = r.now[j] := by simp [Ref.slot, List.getD, hl]
    rw [e, e2] at h1
    simp at h1 hw
    rw [hw] at h1
    cases h1
  have htj : ∀ j, Ref.nowF r.now j = none ↔ (tabF S.table j == -1) = true := fun j => by
    constructor
    · intro e
      rw [h.core.now0 j e]
      rfl
    · intro e
      cases hx : Ref.nowF r.now j with
      | none => rfl
      | some x =>
        obtain ⟨n, h1, -⟩ := h.core.now1 j x.1 x.2 hx
        rw [h1] at e
        have : (n : Int) = -1 := eq_of_beq e
        omega
  have hS : S.hole = min r.hole S.table.length := findIdx_least (fun x : Int => x == -1) (-1) rfl S.table r.hole (fun j hj => by
      have := hrj j hj
      rw [Ne, htj j] at this
      show (tabF S.table j == -1) = false
      simpa using this) ((htj r.hole).1 hr0)
  have htl : r.hole ≤ S.table.length := by
    apply Classical.byContradiction
    intro hn
    have := hrj S.table.length (by omega)
    rw [Ne, htj] at this
    apply this
    unfold tabF
    rw [List.getD, List.getElem?_eq_none (by omega)]
    rfl
  exact ⟨fun _ => hr0, fun _ => ⟨by omega, htl⟩, by omega⟩

end Go.Proofs.YtjbpdgknhbnfgaaGreat

namespace Go.Proofs.YtjbpdgknhbnfgaaGreat

theorem sector_take (L : Bytes) (i : Nat) (h : i < 2) : Disk.sector L i = Disk.sector (L.take 128) i := by
  unfold Disk.sector
  apply List.ext_getElem?
  intro j
  rw [List.getElem?_take, List.getElem?_take, List.getElem?_drop, List.getElem?_drop, List.getElem?_take]
  by_cases c : j < 64
  · rw [if_pos c, if_pos c, if_pos (by omega)]
  · rw [if_neg c, if_neg c]

theorem Rooted.onD {S : Store} (h : Rooted S) {D' : Disk} (m' : FMap) (t' : List Int) (h1 : D'.now.take 128 = S.d.now.take 128) (h2 : ∀ n : Nat, (n : Int) ∈ S.parts → D'.area n = S.d.area n) :
    Rooted { S with d := D', m := m', table := t' } := by
  have hs : ∀ i, i < 2 → Disk.sector D'.now i = Disk.sector S.d.now i := fun i hi => by rw [sector_take _ i hi, h1, ← sector_take _ i hi]
  refine ⟨h.sl, ?_, fun x hx => ?_, fun i p hp => ?_⟩
  · show rootGet (Disk.sector D'.now S.slot.toNat) = _
    rw [hs _ (by rcases h.sl with e | e <;> rw [e] <;> decide)]
    exact h.here
  · have hx' : rootGet (Disk.sector D'.now (1 - S.slot).toNat) = some x := hx
    rw [hs _ (by rcases h.sl with e | e <;> rw [e] <;> decide)] at hx'
    exact h.other x hx'
  · obtain ⟨n, e, b, h3, h4, h5, h6⟩ := h.part i p hp
    refine ⟨n, e, b, h3, h4, ?_, h6⟩
    show pageGet (D'.area n) = _
    rw [h2 n (h3 ▸ List.mem_of_getElem? hp)]
    exact h5

theorem Store.Rel.fresh_no {S : Store} {r : Ref} (h : S.Rel r) (p : Bytes) (hf : r.free < 1) : S.fresh p = (0, 11, S) := by
  have h0 := h.free
  have hc : List.countP (fun x => x == 0) S.m = 0 := by omega
  have hlt : ¬ FMap.first S.m < S.m.length := by
    intro hlt
    have h0 := List.findIdx_getElem (w := hlt)
    exact List.countP_eq_zero.1 hc S.m[FMap.first S.m] (List.getElem_mem hlt) h0
  unfold Store.fresh FMap.take
  rw [if_neg hlt]
  rfl

structure FreshTo (S : Store) (p : Bytes) (n : Nat) (D' : Disk) : Prop where
  eq : S.fresh p = ((n : Int), 0, { S with m := List.set S.m n 2, d := D' })
  was : S.m[n]? = some 0
  lt : n < S.d.pages
  up : D'.Up
  loose : D'.loose.length = S.d.loose.length
  pay : Pay D' n (S.epoch + 1) (pad p)
  other : ∀ x, x ≠ n → D'.area x = S.d.area x
  head : D'.now.take 128 = S.d.now.take 128

theorem Store.put_up {S : Store} (hu : S.d.Up) (hok : S.Ok) (n : Nat) (hn : n < S.d.pages) (kd : Int) (hk : 0 ≤ kd ∧ kd ≤ 2147483647) (p : Bytes) (hl : p.length ≤ 232) :
    ∃ D', S.put n kd p = (0, { S with d := D' }) ∧ D'.Up ∧ D'.loose.length = S.d.loose.length ∧ pageGet (D'.area n) = (⟨n, S.epoch + 1, kd, pad p⟩, 0) ∧ (∀ x, x ≠ n → D'.area x = S.d.area x) ∧ D'.now.take 128 = S.d.now.take 128 := by
  have hpl := Disk.pages_le S.d
  have hep := hok.ep
  have hr : Page.right ⟨n, S.epoch + 1, kd, p⟩ = true := by
    simp [Page.right]
    omega
  obtain ⟨D', e, h1, h2, h3, h4, h5⟩ := pageWrite_up hu n (by omega) (S.epoch + 1) kd p hr hl
  refine ⟨D', ?_, h1, h2, ?_, h4, h5⟩
  · unfold Store.put
    rw [e]
  · rw [h3]
    exact pageGet_bytes _ hr hl (by show (n : Int) ≤ _; omega)

theorem Store.Rel.fresh_yes {S : Store} {r : Ref} (h : S.Rel r) (p : Bytes) (hl : p.length ≤ 232) (hf : ¬ r.free < 1) : ∃ n D', FreshTo S p n D' := by
  have h0 := h.free
  obtain ⟨h1, h2⟩ := first_free (m := S.m) (by omega)
  have hlen := h.core.len
  obtain ⟨n, hn⟩ : ∃ n, n = FMap.first S.m := ⟨_, rfl⟩
  rw [← hn] at h1 h2
  obtain ⟨D', e, d1, d2, d3, d4, d5⟩ := Store.put_up (S := { S with m := List.set S.m n 2 }) h.up ⟨h.ok.ep, h.ok.tl, by show (List.set S.m n 2).length = _; rw [List.length_set]; exact h.ok.ml, h.ok.hi, h.ok.lo⟩ n (by show n < S.d.pages; omega) 2 (by omega) p hl
  refine ⟨n, D', ?_, h2, by omega, d1, d2, ⟨pad_length _ hl, S.epoch + 1, Int.le_refl _, d3⟩, d4, d5⟩
  unfold Store.fresh FMap.take
  rw [← hn, if_pos h1]
  dsimp only
  rw [if_neg (by simp), e, if_neg (by simp)]

theorem Store.Rel.okD {S : Store} {r : Ref} (h : S.Rel r) {D' : Disk} (hll : D'.loose.length = S.d.loose.length) (m' : FMap) (hm : m'.length = S.m.length) (t' : List Int) (ht : t'.length ≤ 512) (hmem : ∀ x ∈ t', -1 ≤ x ∧ x < S.d.pages) : Store.Ok { S with d := D', m := m', table := t' } := by
  have hp := Store.pages_of_loose hll
  refine ⟨h.ok.ep, ht, ?_, fun x hx => ?_, fun x hx => (hmem x hx).1⟩
  · show m'.length = D'.pages
    rw [hm, hp]; exact h.ok.ml
  · show x < D'.pages
    rw [hp]; exact (hmem x hx).2
theorem Store.Rel.tmem {S : Store} {r : Ref} (h : S.Rel r) : ∀ x ∈ S.table, -1 ≤ x ∧ x < S.d.pages := fun x hx => ⟨h.ok.lo x hx, h.ok.hi x hx⟩

/-- A store whose pages have changed, its roots not. -/
theorem Store.Rel.step {S : Store} {r : Ref} (h : S.Rel r) {D' : Disk} {m' : FMap} {t' : List Int} {now' : List RSlot} (hu : D'.Up) (hll : D'.loose.length = S.d.loose.length) (hm : m'.length = S.m.length) (ht : t'.length ≤ 512) (hmem : ∀ x ∈ t', -1 ≤ x ∧ x < S.d.pages)
    (hc : Core S.d.pages m' D' S.epoch (tabF t') (tabF S.old) S.parts (Ref.nowF now') (Ref.oldF r.old)) (hn : now'.length ≤ 512) (h1 : D'.now.take 128 = S.d.now.take 128) (h2 : ∀ n : Nat, (n : Int) ∈ S.parts → D'.area n = S.d.area n) :
    Store.Rel { S with d := D', m := m', table := t' } { r with now := now' } := by
  have hp := Store.pages_of_loose hll
  refine ⟨h.okD hll m' hm t' ht hmem, hu, by show 1 ≤ D'.pages; rw [hp]; exact h.pos, h.br, ?_, h.ep, h.ep1, ?_, hn, h.ol, h.ol2, ?_, h.pl, h.rt.onD m' t' h1 h2⟩
  · show ((D'.pages : Nat) : Int) = r.many
    rw [hp]; exact h.many
  · show Core D'.pages m' D' S.epoch _ _ _ _ _
    rw [hp]; exact hc
  · show ∀ p ∈ S.old, -1 ≤ p ∧ p < D'.pages
    rw [hp]; exact h.olo

theorem Store.Rel.part_ne {S : Store} {r : Ref} (h : S.Rel r) {n : Nat} {x : Int} (hm : S.m[n]? = some x) (hx : x ≠ 1) : (n : Int) ∉ S.parts := fun hp => by
  obtain ⟨n', e, -, h1⟩ := h.core.part _ hp
  obtain rfl : n = n' := by omega
  rw [hm] at h1
  exact hx (by simpa using h1)

theorem Store.Rel.new {S : Store} {r : Ref} (h : S.Rel r) (p : Bytes) : (S.new p).1 = (r.new p).1 ∧ (S.new p).2.1 = (r.new p).2.1 ∧ (S.new p).2.2.Rel (r.new p).2.2 := by
  obtain ⟨g1, g2, g3⟩ := h.hole
  unfold Store.new Ref.new
  rw [if_neg (by rw [h.br]; simp)]
  by_cases hl : 232 < p.length
  · rw [if_pos hl, if_pos hl]
    exact ⟨rfl, rfl, h⟩
  rw [if_neg hl, if_neg hl]
  by_cases hk : 512 ≤ r.hole
  · have hc : 512 ≤ r.hole ∨ r.free < 1 := .inl hk
    rw [if_pos (g3.2 hk), if_pos hc]
    exact ⟨rfl, rfl, h⟩
  rw [if_neg (by rw [g3]; exact hk)]
  obtain ⟨e1, e2⟩ := g2 (.inr (by omega))
  by_cases hf : r.free < 1
  · have hc : 512 ≤ r.hole ∨ r.free < 1 := .inr hf
    rw [if_pos hc, h.fresh_no p hf]
    exact ⟨rfl, rfl, h⟩
  have hc : ¬ (512 ≤ r.hole ∨ r.free < 1) := by omega
  rw [if_neg hc]
  obtain ⟨n, D', F⟩ := h.fresh_yes p (by omega) hf
  rw [F.eq]
  dsimp only
  rw [if_neg (by simp), e1]
  have hput : (if r.hole = S.table.length then S.table ++ [(n : Int)] else S.table.set r.hole n) = putAt S.table r.hole n := rfl
  rw [hput]
  refine ⟨rfl, rfl, ?_⟩
  refine h.step (m' := List.set S.m n 2) (t' := putAt S.table r.hole n) (now' := Ref.setL r.now r.hole ⟨true, true, pad p⟩) F.up F.loose (by rw [List.length_set]) ?_ ?_ ?_ ?_ F.head fun x hx => F.other x ?_
  · rw [putAt_length _ _ _ e2]
    have := h.ok.tl
    omega
  · intro x hx
    obtain ⟨j, hj⟩ := List.mem_iff_getElem?.1 hx
    rw [putAt_get _ _ _ e2] at hj
    split at hj
    · obtain rfl : (n : Int) = x := by simpa using hj
      have := F.lt
      omega
    · exact h.tmem x (List.mem_of_getElem? hj)
  · rw [tabF_putAt _ _ _ e2, Ref.nowF_setL]
    exact h.core.place (by omega) (g1 (by omega)) F.was F.pay F.other
  · rw [Ref.setL_length]
    have := h.nl
    omega
  · intro e
    subst e
    exact h.part_ne F.was (by omega) hx

theorem Store.Rel.drop {S : Store} {r : Ref} (h : S.Rel r) (l : Int) : (S.drop l).1 = (r.drop l).1 ∧ (S.drop l).2.Rel (r.drop l).2 := by
  unfold Store.drop Ref.drop
  cases ha : r.at_ l with
  | false =>
    rw [h.at_no ha, if_pos rfl]
    exact ⟨rfl, h⟩
  | true =>
    obtain ⟨k, rfl, hN⟩ := (Ref.at_nat r l).1 ha
    rw [h.at_yes hN, if_neg (by simp), if_neg (by simp), Int.toNat_natCast]
    refine ⟨rfl, ?_⟩
    cases hx : Ref.nowF r.now k with
    | none => exact absurd hx hN
    | some x =>
      obtain ⟨f, b⟩ := x
      obtain ⟨n, h1, h2, h3, h4, h5, h6⟩ := h.tab_some hx
      have hkl : k < 512 := Nat.lt_of_lt_of_le h3 h.ok.tl
      have hlen : ∀ y, (FMap.leave S.m n).2.length = S.m.length → (Ref.setL r.now k RSlot.none).length ≤ y → True := fun _ _ _ => trivial
      have hnl : n < S.m.length := (List.getElem?_eq_some_iff.1 h5).1
      have hleave : (FMap.leave S.m n).2 = S.m.set n (if f then 0 else 3) := by
        unfold FMap.leave
        rw [FMap.at_of hnl, if_neg (by simp), FMap.kind_of hnl, (List.getElem?_eq_some_iff.1 h5).2, Int.toNat_natCast]
        cases f <;> rfl
      show Store.Rel { S with m := (FMap.leave S.m (S.tab k)).2, table := S.table.set k (-1) } _
      rw [h1, hleave]
      refine h.step (D' := S.d) h.up rfl (by rw [List.length_set]) (by rw [List.length_set]; exact h.ok.tl) (fun y hy => ?_) ?_ ?_ rfl fun _ _ => rfl
      · rcases List.mem_or_eq_of_mem_set hy with hy | rfl
        · exact h.tmem y hy
        · have : 0 ≤ S.d.pages := Nat.zero_le _
          omega
      · rw [tabF_set _ _ _ h3, Ref.nowF_setL]
        cases f with
        | true => exact h.core.dropFresh hx h2
        | false => exact h.core.dropKept hx h2
      · rw [Ref.setL_length]
        have := h.nl
        omega

theorem Store.Rel.write {S : Store} {r : Ref} (h : S.Rel r) (l : Int) (p : Bytes) : (S.write l p).1 = (r.write l p).1 ∧ (S.write l p).2.Rel (r.write l p).2 := by
  unfold Store.write Ref.write
  rw [if_neg (by rw [h.br]; simp)]
  by_cases hl : 232 < p.length
  · rw [if_pos hl, if_pos hl]
    exact ⟨rfl, h⟩
  rw [if_neg hl, if_neg hl]
  cases ha : r.at_ l with
  | false =>
    have hff : false = false := rfl
    rw [h.at_no ha, if_pos (by simp), if_pos hff]
    exact ⟨rfl, h⟩
  | true =>
    obtain ⟨k, rfl, hN⟩ := (Ref.at_nat r l).1 ha
    have hft : ¬ (true = false) := by simp
    rw [h.at_yes hN, if_neg (by simp), if_neg hft, Int.toNat_natCast]
    cases hx : Ref.nowF r.now k with
    | none => exact absurd hx hN
    | some x =>
      obtain ⟨f, b⟩ := x
      obtain ⟨n, h1, h2, h3, h4, h5, h6⟩ := h.tab_some hx
      have hkl : k < 512 := Nat.lt_of_lt_of_le h3 h.ok.tl
      have hnl : n < S.m.length := (List.getElem?_eq_some_iff.1 h5).1
      have hfr : (Ref.slot r.now k).fresh = f := by
        unfold Ref.nowF at hx
        split at hx
        · simpa using congrArg (fun o : Option (Bool × Bytes) => o.map Prod.fst) hx
        · cases hx
      have hnl2 : (Ref.setL r.now k ⟨true, true, pad p⟩).length ≤ 512 := by
        rw [Ref.setL_length]
        have := h.nl
        omega
      rw [h1]
      cases f with
      | true =>
        have hfm : FMap.fresh S.m n = true := by
          unfold FMap.fresh
          rw [FMap.at_of hnl, FMap.kind_of hnl, (List.getElem?_eq_some_iff.1 h5).2]
          rfl
        rw [if_pos hfm, if_neg (by rw [hfr]; simp)]
        obtain ⟨D', e, d1, d2, d3, d4, d5⟩ := Store.put_up h.up h.ok n h4 2 (by omega) p (by omega)
        rw [e]
        refine ⟨rfl, ?_⟩
        refine h.step (D' := D') (m' := S.m) (t' := S.table) d1 d2 rfl h.ok.tl h.tmem ?_ hnl2 d5 fun x hx' => d4 x ?_
        · rw [Ref.nowF_setL]
          exact h.core.over hx h2 ⟨pad_length _ (by omega), S.epoch + 1, Int.le_refl _, d3⟩ d4
        · intro e'
          subst e'
          exact h.part_ne h5 (by simp) hx'
      | false =>
        have hfm : FMap.fresh S.m n = false := by
          unfold FMap.fresh
          rw [FMap.at_of hnl, FMap.kind_of hnl, (List.getElem?_eq_some_iff.1 h5).2]
          rfl
        rw [if_neg (by rw [hfm]; simp), hfr]
        by_cases hf : r.free < 1
        · have hcc : false = false ∧ r.free < 1 := ⟨rfl, hf⟩
          rw [if_pos hcc, h.fresh_no p hf]
          exact ⟨rfl, h⟩
        have hcc : ¬ (false = false ∧ r.free < 1) := fun hh => hf hh.2
        rw [if_neg hcc]
        obtain ⟨n', D', F⟩ := h.fresh_yes p (by omega) hf
        rw [F.eq]
        dsimp only
        rw [if_neg (by simp)]
        refine ⟨rfl, ?_⟩
        have hne : n ≠ n' := fun e => by
          subst e
          rw [F.was] at h5
          simp at h5
        have h5' : (S.m.set n' 2)[n]? = some 1 := by rw [get_setv F.was, if_neg hne]; exact h5
        rw [leave_one h5']
        dsimp only
        have hcom : (S.m.set n' 2).set n 3 = (S.m.set n 3).set n' 2 := List.set_comm _ _ (fun e => hne e.symm)
        rw [hcom]
        refine h.step (m' := (S.m.set n 3).set n' 2) (t' := S.table.set k n') F.up F.loose (by simp) (by rw [List.length_set]; exact h.ok.tl) (fun y hy => ?_) ?_ hnl2 F.head fun x hx' => F.other x ?_
        · rcases List.mem_or_eq_of_mem_set hy with hy | rfl
          · exact h.tmem y hy
          · have := F.lt
            omega
        · rw [tabF_set _ _ _ h3, Ref.nowF_setL]
          have c1 := h.core.dropKept hx h2
          have hw : (S.m.set n 3)[n']? = some 0 := by rw [get_setv h5, if_neg (fun e => hne e.symm)]; exact F.was
          have c2 := c1.place (k := k) hkl (upd_same _ _ _) hw F.pay F.other
          have hu1 : ∀ {α : Type} (g : Nat → α) (a c : α), upd (upd g k a) k c = upd g k c := fun g a c => by
            funext j
            unfold upd
            split <;> rfl
          rw [hu1, hu1] at c2
          exact c2
        · intro e'
          subst e'
          exact h.part_ne F.was (by omega) hx'

theorem Store.Rel.read {S : Store} {r : Ref} (h : S.Rel r) (i : Nat) : S.read i = match Ref.nowF r.now i with | some x => (x.2, 0) | none => ([], 3) := by
  unfold Store.read
  cases hx : Ref.nowF r.now i with
  | none =>
    have : r.at_ i = false := by
      cases ha : r.at_ i with
      | false => rfl
      | true =>
        obtain ⟨k, e, hN⟩ := (Ref.at_nat r i).1 ha
        obtain rfl : i = k := by omega
        exact absurd hx hN
    rw [h.at_no this]
    rfl
  | some x =>
    obtain ⟨f, b⟩ := x
    obtain ⟨n, h1, h2, h3, h4, h5, -, e, -, h7⟩ := h.tab_some hx
    rw [h.at_yes (by rw [hx]; simp), if_neg (by simp), h1]
    have hp := (Disk.pages_le S.d).1
    rw [pageRead_up h.up n (by omega) _ h7 rfl]
    rfl
theorem Store.Rel.read_neg {S : Store} {r : Ref} (h : S.Rel r) {l : Int} (ha : r.at_ l = false) : S.read l = ([], 3) := by
  unfold Store.read
  rw [h.at_no ha]
  rfl

theorem Ref.nowF_old (l : List RSlot) (h : ∀ x ∈ l, x.fresh = false) : Ref.nowF l = fun i => (Ref.oldF l i).map fun b => (false, b) := by
  funext i
  unfold Ref.nowF Ref.oldF
  have hf : (Ref.slot l i).fresh = false := by
    unfold Ref.slot
    rw [List.getD]
    cases hx : l[i]? with
    | none => rfl
    | some x => exact h x (List.mem_of_getElem? hx)
  cases (Ref.slot l i).is with
  | false => rfl
  | true => rw [hf]; rfl

theorem Store.Rel.abort {S : Store} {r : Ref} (h : S.Rel r) (ho : ∀ x ∈ r.old, x.fresh = false) : S.abort.Rel r.abort := by
  show Store.Rel { S with m := FMap.abort S.m, table := S.old } { r with now := r.old }
  refine h.step (D' := S.d) h.up rfl (by simp [FMap.abort, FMap.turn]) (by rw [h.ol]; exact h.ol2) h.olo ?_ h.ol2 rfl fun _ _ => rfl
  rw [Ref.nowF_old r.old ho]
  exact h.core.abort

end Go.Proofs.YtjbpdgknhbnfgaaGreat
