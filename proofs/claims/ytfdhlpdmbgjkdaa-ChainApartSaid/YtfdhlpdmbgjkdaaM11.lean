/- A part of the walks of the program's functions, each a contract that its caller uses; no condition but what each theorem names. The walks of the laws ChainBack and ChainFull. The walk of the law ChainFull. The walk of the law ChainApart. -/
import Derived.Test.YtfdhlpdmbgjkdaaM10

namespace Go.Proofs.Ytfdhlpdmbgjkdaa
open Go.RowKit
set_option maxRecDepth 100000

theorem countP_set' {α : Type} (p : α → Bool) {m : List α} {n : Nat} {a b : α} (h : m[n]? = some a) : List.countP p (m.set n b) + (if p a then 1 else 0) = List.countP p m + (if p b then 1 else 0) := by
  induction m generalizing n with
  | nil => simp at h
  | cons c m ih =>
    cases n with
    | zero =>
      obtain rfl : c = a := by simpa using h
      simp only [List.set_cons_zero, List.countP_cons]
      omega
    | succ n =>
      have := ih (n := n) (by simpa using h)
      simp only [List.set_cons_succ, List.countP_cons]
      omega
theorem howMany_add (A : Pages) (b : Bytes) : howMany (addPage A b) = howMany A + 1 := by
  unfold howMany addPage putAt
  split
  · rw [List.countP_append]
    simp
  · rename_i hne
    have hle := holeOf_le A
    have hlt : holeOf A < A.length := by omega
    have hw := List.findIdx_getElem (w := (hlt : A.findIdx Option.isNone < A.length))
    have h2 : A[holeOf A]? = some A[holeOf A] := List.getElem?_eq_getElem hlt
    have h3 := countP_set' Option.isSome (b := some b) h2
    have h4 : A[holeOf A].isSome = false := by
      have hw' : A[holeOf A].isNone = true := hw
      cases hx : A[holeOf A] with
      | none => rfl
      | some b => rw [hx] at hw'; cases hw'
    rw [h4] at h3
    simpa using h3
theorem howMany_laid (v : Bytes) (k : Nat) (A : Pages) : ∀ j, howMany (laid v k A j).1 = howMany A + j
  | 0 => rfl
  | j + 1 => by
    show howMany (addPage (laid v k A j).1 _) = _
    rw [howMany_add, howMany_laid v k A j]
    omega
theorem howMany_none {A : Pages} (h : ∀ l, lookup A l = none) : howMany A = 0 := by
  unfold howMany
  rw [List.countP_eq_zero]
  intro x hx hs
  obtain ⟨i, hi⟩ := List.mem_iff_getElem?.1 hx
  have := h (i : Int)
  rw [lookup_nat, hi] at this
  have e : x = none := this
  subst e
  cases hs

/-- A value for which there is no room leaves nothing. -/
theorem full_none (v : Bytes) (f : Nat) (hf : f ≤ 500) : ∀ l, lookup (dropAll (laid v (chainNeed v.length) [] f).1 (cpages (laid v (chainNeed v.length) [] f).2).reverse) l = none := fun l => by
  have h := laid_ok v (chainNeed v.length) [] f (by simp; omega)
  rw [dropAll_lookup]
  · by_cases hl : l ∈ (cpages (laid v (chainNeed v.length) [] f).2).reverse
    · rw [if_pos hl]
    · rw [if_neg hl, h.old l (fun hm => hl (List.mem_reverse.2 hm))]
      unfold lookup
      split
      · rfl
      · simp
  · intro p hp
    obtain ⟨b, hb⟩ := h.chain.there p (List.mem_reverse.1 hp)
    exact lookup_nonneg hb

set_option maxHeartbeats 1000000 in
theorem law_back (s : Bytes) (n fr : Nat) (w : World) (hn : n ≤ 65535) (hfr : fr ≤ 255) (hs : s.length ≤ 9223372036854775807) :
    Calls Try.prog 5 #[strV s, .int .u16 n, .int .u8 fr] w (YesOk w) := by
  by_cases h1 : 1500 < s.length
  · have h1' : 1500 < (s.length : Int) := by omega
    go_enter Try.func5, Try.ntmps5
    go_wp2_with (first
      | (go_at_call 8; (with_reducible refine (law_awake _).mono ?_); rintro e w4 ⟨rfl, hc⟩; have C2 := Lib.hid hc; clear hc))
    go_ret
    exact ⟨rfl, C2.out⟩
  · have h1' : ¬ 1500 < (s.length : Int) := by omega
    have hb : Calls Try.prog 7 #[intV ((fr : Int) % 4 + 1), intV 20] w (AtBegun w 20) := by
      have := at_begun (fr % 4 + 1) 20 w (by omega) (by omega) (by omega) (by omega)
      rw [show (((fr % 4 + 1 : Nat)) : Int) = (fr : Int) % 4 + 1 by omega] at this
      exact this
    have hb' := fun (wr : World) => (show Calls Try.prog 7 #[intV ((fr : Int) % 4 + 1), intV 20] wr (AtBegun wr 20) by
      have := at_begun (fr % 4 + 1) 20 wr (by omega) (by omega) (by omega) (by omega)
      rw [show (((fr % 4 + 1 : Nat)) : Int) = (fr : Int) % 4 + 1 by omega] at this
      exact this)
    have hlg : Calls Try.prog 15 #[strV s, intV ((n : Int) % 1100)] w fun e w' => e = .returned (strV (longL s (n % 1100))) ∧ Chg [] w w' := by
      have := law_long s (n % 1100) w (by omega) (by omega)
      rw [show ((n % 1100 : Nat) : Int) = (n : Int) % 1100 by omega] at this
      exact this
    have hL : (longL s (n % 1100)).length ≤ 1500 := by rw [longL_length]; omega
    generalize longL s (n % 1100) = L at *
    have HB := Lib.hid hb'
    have HLG := Lib.hid hlg
    have hfI : (0 : Int) ≤ (fr : Int) := by omega
    have hfI2 : (fr : Int) ≤ 255 := by omega
    have hnI : (n : Int) ≤ 65535 := by omega
    clear hb hb' hlg
    by_cases hbig : 1024 < L.length
    · have hbig' : 1024 < (L.length : Int) := by omega
      have hput := fun (w1 wr : World) (p : Nat) (h : At w1 wr p [] 20) => at_put_big h L hbig (by omega)
      have hspg := fun (w1 wr : World) (p s : Nat) (h : AtS w1 wr p s [] 20) => at_spages h 0 rfl
      have HPUT := Lib.hid hput
      have HSPG := Lib.hid hspg
      clear hput hspg
      go_enter Try.func5, Try.ntmps5
      go_wp2_with (first
        | (go_at_call 15; (with_reducible refine HLG.out.mono ?_); rintro e w1 ⟨rfl, hc⟩; have C1 := Lib.hid hc; clear hc)
        | (go_at_call 7; (with_reducible refine (HB.out _).mono ?_); rintro e w2 ⟨p, x, rfl, h2⟩; have HP := Lib.hid h2; clear h2)
        | (go_at_call 8; (with_reducible refine (law_awake _).mono ?_); rintro e w3 ⟨rfl, hc⟩; have HP := Lib.hid (HP.out.on0 hc); clear hc)
        | (go_at_call 9; (with_reducible refine (HPUT.out _ _ _ HP.out).mono ?_); rintro e w4 ⟨rfl, h4⟩; have HP := Lib.hid h4; clear h4)
        | (go_at_call 16; (with_reducible refine (at_store HP.out).mono ?_); rintro e w5 ⟨sb, rfl, rfl, h5⟩; have HPS := Lib.hid h5; clear h5)
        | (go_at_call 17; (with_reducible refine (HSPG.out _ _ _ _ HPS.out).mono ?_); rintro e w6 ⟨sa, sc, rfl, hsc1, hsc2, h6⟩; have HP := Lib.hid h6; clear h6))
      go_ret
      exact ⟨rfl, C1.out.trans0 HP.out.chg⟩
    · have hbig' : ¬ 1024 < (L.length : Int) := by omega
      have hk := chainNeed_bd (n := L.length) (by omega)
      have hH := holds_of L [] (by omega) (by simp)
      obtain ⟨k, hkk⟩ : ∃ k, chainNeed L.length = k := ⟨_, rfl⟩
      have hput := fun (w1 wr : World) (p : Nat) (h : At w1 wr p [] 20) => at_put_ok h L (by omega) (by simp) (by omega)
      have hget := fun (w1 wr : World) (p f : Nat) (h : At w1 wr p (pagesOf L []) f) => at_get h (linksOf L []) hH.chain hH.some hH.few L hH.bytes (by omega)
      have hpgs := fun (w1 wr : World) (p f : Nat) (h : At w1 wr p (pagesOf L []) f) => at_pages h (linksOf L []) hH.chain hH.some hH.few (by rw [hH.bytes]; omega) k (hH.many.trans hkk)
      have hmany : howMany (pagesOf L []) = k := by
        unfold pagesOf
        rw [howMany_laid, hkk]
        show 0 + k = k
        omega
      have hspg := fun (w1 wr : World) (p s f : Nat) (h : AtS w1 wr p s (pagesOf L []) f) => at_spages h k hmany
      have hnd := fun (wr : World) => chain_need L.length wr (by omega)
      rw [hkk] at hput hnd hk
      generalize nxt (linksOf L []) = fst at *
      generalize pagesOf L [] = A at *
      have HPUT := Lib.hid hput
      have HGET := Lib.hid hget
      have HPGS := Lib.hid hpgs
      have HSPG := Lib.hid hspg
      have HND := Lib.hid hnd
      clear hput hget hpgs hspg hnd hH hmany hkk
      go_enter Try.func5, Try.ntmps5
      go_wp2_with (first
        | (go_at_call 15; (with_reducible refine HLG.out.mono ?_); rintro e w1 ⟨rfl, hc⟩; have C1 := Lib.hid hc; clear hc)
        | (go_at_call 7; (with_reducible refine (HB.out _).mono ?_); rintro e w2 ⟨p, x, rfl, h2⟩; have HP := Lib.hid h2; clear h2)
        | (go_at_call 8; (with_reducible refine (law_awake _).mono ?_); rintro e w3 ⟨rfl, hc⟩; have HP := Lib.hid (HP.out.on0 hc); clear hc)
        | (go_at_call 9; (with_reducible refine (HPUT.out _ _ _ HP.out).mono ?_); rintro e w4 ⟨rfl, h4⟩; have HP := Lib.hid h4; clear h4)
        | (go_at_call 11; (with_reducible refine (HGET.out _ _ _ _ HP.out).mono ?_); rintro e w4 ⟨rfl, h4⟩; have HP := Lib.hid h4; clear h4)
        | (go_at_call 12; (with_reducible refine (HPGS.out _ _ _ _ HP.out).mono ?_); rintro e w5 ⟨pa, pc, rfl, hpc1, hpc2, h1⟩; have HP := Lib.hid h1; clear h1)
        | (go_at_call 13; (with_reducible refine (HND.out _).mono ?_); rintro e w6 ⟨rfl, rfl⟩)
        | (go_at_call 16; (with_reducible refine (at_store HP.out).mono ?_); rintro e w5 ⟨sb, rfl, rfl, h5⟩; have HPS := Lib.hid h5; clear h5)
        | (go_at_call 17; (with_reducible refine (HSPG.out _ _ _ _ _ HPS.out).mono ?_); rintro e w6 ⟨sa, sc, rfl, hsc1, hsc2, h6⟩; have HP := Lib.hid h6; clear h6))
      go_ret
      exact ⟨rfl, C1.out.trans0 HP.out.chg⟩

end Go.Proofs.Ytfdhlpdmbgjkdaa

namespace Go.Proofs.Ytfdhlpdmbgjkdaa
open Go.RowKit
set_option maxRecDepth 100000

set_option maxHeartbeats 1000000 in
theorem law_full (pg n : Nat) (w : World) (hpg : pg ≤ 255) (hn : n ≤ 65535) :
    Calls Try.prog 6 #[.int .u8 pg, .int .u16 n] w (YesOk w) := by
  have hb := fun (wr : World) => (show Calls Try.prog 7 #[intV 2, intV ((pg : Int) % 8 + 1)] wr (AtBegun wr (pg % 8 + 1)) by
    have := at_begun 2 (pg % 8 + 1) wr (by omega) (by omega) (by omega) (by omega)
    rw [show (((pg % 8 + 1 : Nat)) : Int) = (pg : Int) % 8 + 1 by omega] at this
    exact this)
  have hlg := fun (wr : World) => (show Calls Try.prog 15 #[.string ⟨#[120]⟩, intV ((n : Int) % 1024)] wr fun e w' => e = .returned (strV (longL [120] (n % 1024))) ∧ Chg [] wr w' by
    have := law_long [120] (n % 1024) wr (by simp) (by omega)
    rw [show ((n % 1024 : Nat) : Int) = (n : Int) % 1024 by omega] at this
    exact this)
  have hL : (longL [120] (n % 1024)).length ≤ 1024 := by rw [longL_length]; simp; omega
  generalize longL [120] (n % 1024) = L at *
  obtain ⟨f, hf⟩ : ∃ f, f = pg % 8 + 1 := ⟨_, rfl⟩
  rw [← hf] at hb
  have hk := chainNeed_bd hL
  obtain ⟨k, hkk⟩ : ∃ k, chainNeed L.length = k := ⟨_, rfl⟩
  have hcnt := fun (w1 wr : World) (p s f : Nat) (A : Pages) (h : AtS w1 wr p s A f) => at_count h
  have hnd := fun (wr : World) => chain_need L.length wr (by omega)
  rw [hkk] at hnd hk
  have HB := Lib.hid hb
  have HLG := Lib.hid hlg
  have HCNT := Lib.hid hcnt
  have HND := Lib.hid hnd
  have hf8 : f ≤ 8 := by omega
  have hpI : (0 : Int) ≤ (pg : Int) := by omega
  have hpI2 : (pg : Int) ≤ 255 := by omega
  have hnI : (n : Int) ≤ 65535 := by omega
  clear hb hlg hcnt hnd hf
  by_cases hfit : k ≤ f
  · have hput := fun (w1 wr : World) (p : Nat) (h : At w1 wr p [] f) => at_put_ok h L hL (by simp) (by omega)
    rw [hkk] at hput
    have e1 : ((f - k : Nat) : Int) = (f : Int) - (k : Int) := by omega
    generalize nxt (linksOf L []) = fst at *
    generalize pagesOf L [] = A at *
    obtain ⟨m, hm⟩ : ∃ m, f - k = m := ⟨_, rfl⟩
    rw [hm] at hput e1
    have HPUT := Lib.hid hput
    have HE := Lib.hid e1
    have hfitI : (k : Int) ≤ (f : Int) := by omega
    have hbeq : ((m : Int) == (f : Int) - (k : Int)) = true := by rw [e1]; simp
    clear hput hm hkk e1
    go_enter Try.func6, Try.ntmps6
    go_wp2_with (first
      | (go_at_call 15; (with_reducible refine (HLG.out _).mono ?_); rintro e w1 ⟨rfl, hc⟩; have HP := Lib.hid (HP.out.on0 hc); clear hc)
      | (go_at_call 7; (with_reducible refine (HB.out _).mono ?_); rintro e w2 ⟨p, x, rfl, h2⟩; have HP := Lib.hid h2; clear h2)
      | (go_at_call 8; (with_reducible refine (law_awake _).mono ?_); rintro e w3 ⟨rfl, hc⟩; have HP := Lib.hid (HP.out.on0 hc); clear hc)
      | (go_at_call 9; (with_reducible refine (HPUT.out _ _ _ HP.out).mono ?_); rintro e w4 ⟨rfl, h4⟩; have HP := Lib.hid h4; clear h4)
      | (go_at_call 13; (with_reducible refine (HND.out _).mono ?_); rintro e w6 ⟨rfl, rfl⟩)
      | (go_at_call 16; (with_reducible refine (at_store HP.out).mono ?_); rintro e w5 ⟨sb, rfl, rfl, h5⟩; have HPS := Lib.hid h5; clear h5)
      | (go_at_call 18; (with_reducible refine (HCNT.out _ _ _ _ _ _ HPS.out).mono ?_); rintro e w6 ⟨c1, c2, c3, rfl, h6⟩; have HP := Lib.hid h6; clear h6))
    go_ret
    exact ⟨rfl, HP.out.chg⟩
  · have hput := fun (w1 wr : World) (p : Nat) (h : At w1 wr p [] f) => at_put_full h L hL (by simp) (by omega)
    have hnone := howMany_none (full_none L f (by omega))
    have hspg := fun (w1 wr : World) (p s f2 : Nat) (h : AtS w1 wr p s (dropAll (laid L (chainNeed L.length) [] f).1 (cpages (laid L (chainNeed L.length) [] f).2).reverse) f2) => at_spages h 0 hnone
    generalize dropAll (laid L (chainNeed L.length) [] f).1 (cpages (laid L (chainNeed L.length) [] f).2).reverse = A at *
    have HPUT := Lib.hid hput
    have HSPG := Lib.hid hspg
    have hfitI : (f : Int) < (k : Int) := by omega
    clear hput hkk hspg hnone
    go_enter Try.func6, Try.ntmps6
    go_wp2_with (first
      | (go_at_call 15; (with_reducible refine (HLG.out _).mono ?_); rintro e w1 ⟨rfl, hc⟩; have HP := Lib.hid (HP.out.on0 hc); clear hc)
      | (go_at_call 7; (with_reducible refine (HB.out _).mono ?_); rintro e w2 ⟨p, x, rfl, h2⟩; have HP := Lib.hid h2; clear h2)
      | (go_at_call 8; (with_reducible refine (law_awake _).mono ?_); rintro e w3 ⟨rfl, hc⟩; have HP := Lib.hid (HP.out.on0 hc); clear hc)
      | (go_at_call 9; (with_reducible refine (HPUT.out _ _ _ HP.out).mono ?_); rintro e w4 ⟨rfl, h4⟩; have HP := Lib.hid h4; clear h4)
      | (go_at_call 13; (with_reducible refine (HND.out _).mono ?_); rintro e w6 ⟨rfl, rfl⟩)
      | (go_at_call 16; (with_reducible refine (at_store HP.out).mono ?_); rintro e w5 ⟨sb, rfl, rfl, h5⟩; have HPS := Lib.hid h5; clear h5)
      | (go_at_call 17; (with_reducible refine (HSPG.out _ _ _ _ _ HPS.out).mono ?_); rintro e w6 ⟨sa, sc, rfl, hsc1, hsc2, h6⟩; have HP := Lib.hid h6; clear h6)
      | (go_at_call 18; (with_reducible refine (HCNT.out _ _ _ _ _ _ HPS.out).mono ?_); rintro e w6 ⟨c1, c2, c3, rfl, h6⟩; have HP := Lib.hid h6; clear h6))
    go_ret
    exact ⟨rfl, HP.out.chg⟩

end Go.Proofs.Ytfdhlpdmbgjkdaa

namespace Go.Proofs.Ytfdhlpdmbgjkdaa
open Go.RowKit
set_option maxRecDepth 100000

/-- What ChainApart lays: a, b, c; b is dropped; a again. -/
structure Apart4 (a b c : Bytes) (A1 A2 A3 A4 A5 : Pages) (r1 r2 r3 r5 : List Link) : Prop where
  b1 : Chain A5 r1
  b3 : Chain A5 r3
  b5 : Chain A5 r5
  c2 : Chain A3 r2
  len : A1.length ≤ 500 ∧ A2.length ≤ 500 ∧ A3.length ≤ 500 ∧ A4.length ≤ 500

theorem Chain.keep {A A' : Pages} {r : List Link} (h : Chain A r) (hs : ∀ l b, lookup A l = some b → lookup A' l = some b) : Chain A' r :=
  h.mono fun l hl => by
    obtain ⟨b, hb⟩ := h.there l hl
    rw [hb, hs l b hb]
theorem Holds.keep {v : Bytes} {A A' : Pages} {r : List Link} (h : Holds v A A' r) : ∀ l b, lookup A l = Option.some b → lookup A' l = Option.some b := fun l b hb => by
  rw [h.old, hb]
  intro hm
  rw [h.new l hm] at hb
  cases hb

theorem apart_of (a b c : Bytes) (ha : a.length ≤ 1024) (hb : b.length ≤ 1024) (hc : c.length ≤ 1024) :
    ∃ A1 A2 A3 A4 A5 : Pages, ∃ r1 r2 r3 r5 : List Link, A1 = pagesOf a [] ∧ r1 = linksOf a [] ∧ A2 = pagesOf b A1 ∧ r2 = linksOf b A1 ∧ A3 = pagesOf c A2 ∧ r3 = linksOf c A2 ∧ A4 = dropAll A3 (cpages r2) ∧ A5 = pagesOf a A4 ∧ r5 = linksOf a A4 ∧
      Holds a [] A1 r1 ∧ Holds b A1 A2 r2 ∧ Holds c A2 A3 r3 ∧ Holds a A4 A5 r5 ∧ Apart4 a b c A1 A2 A3 A4 A5 r1 r2 r3 r5 := by
  have h1 := holds_of a [] ha (by simp)
  have l1 := h1.len
  have h2 := holds_of b (pagesOf a []) hb (by simp at l1; omega)
  have l2 := h2.len
  have h3 := holds_of c (pagesOf b (pagesOf a [])) hc (by simp at l1; omega)
  have l3 := h3.len
  have l4 := dropAll_length (cpages (linksOf b (pagesOf a []))) (pagesOf c (pagesOf b (pagesOf a [])))
  have h5 := holds_of a (dropAll (pagesOf c (pagesOf b (pagesOf a []))) (cpages (linksOf b (pagesOf a [])))) ha (by simp at l1; omega)
  refine ⟨_, _, _, _, _, _, _, _, _, rfl, rfl, rfl, rfl, rfl, rfl, rfl, rfl, rfl, h1, h2, h3, h5, ?_⟩
  generalize pagesOf a [] = A1 at *
  generalize linksOf a [] = r1 at *
  generalize pagesOf b A1 = A2 at *
  generalize linksOf b A1 = r2 at *
  generalize pagesOf c A2 = A3 at *
  generalize linksOf c A2 = r3 at *
  have hd := fun l => dropAll_lookup (cpages r2) A3 (fun p hp => by
    obtain ⟨x, hx⟩ := h2.chain.there p hp
    exact lookup_nonneg hx) l
  generalize dropAll A3 (cpages r2) = A4 at *
  generalize pagesOf a A4 = A5 at *
  generalize linksOf a A4 = r5 at *
  have c2 : Chain A3 r2 := h2.chain.keep h3.keep
  have k1 : ∀ l ∈ cpages r1, lookup A4 l = lookup A3 l := fun l hl => by
    rw [hd l, if_neg]
    intro hm
    obtain ⟨x, hx⟩ := h1.chain.there l hl
    rw [h2.new l hm] at hx
    cases hx
  have k3 : ∀ l ∈ cpages r3, lookup A4 l = lookup A3 l := fun l hl => by
    rw [hd l, if_neg]
    intro hm
    obtain ⟨x, hx⟩ := h2.chain.there l hm
    rw [h3.new l hl] at hx
    cases hx
  refine ⟨(((h1.chain.keep h2.keep).keep h3.keep).mono k1).keep h5.keep, (h3.chain.mono k3).keep h5.keep, h5.chain, c2, ?_⟩
  simp at l1
  omega

set_option maxHeartbeats 2000000 in
theorem law_apart (a b c : Bytes) (w : World) (ha0 : a.length ≤ 9223372036854775807) (hb0 : b.length ≤ 9223372036854775807) (hc0 : c.length ≤ 9223372036854775807) :
    Calls Try.prog 3 #[strV a, strV b, strV c] w (YesOk w) := by
  have hb1 : Calls Try.prog 7 #[intV 2, intV 40] w (AtBegun w 40) := at_begun 2 40 w (by omega) (by omega) (by omega) (by omega)
  have HB := Lib.hid hb1
  clear hb1
  by_cases ha : 1024 < a.length
  · have ha' : 1024 < (a.length : Int) := by omega
    go_enter Try.func3, Try.ntmps3
    go_wp2_with (first
      | (go_at_call 7; (with_reducible refine HB.out.mono ?_); rintro e w2 ⟨p, x, rfl, h2⟩; have HP := Lib.hid h2; clear h2)
      | (go_at_call 8; (with_reducible refine (law_awake _).mono ?_); rintro e w3 ⟨rfl, hc⟩; have HP := Lib.hid (HP.out.on0 hc); clear hc))
    go_ret
    exact ⟨rfl, HP.out.chg⟩
  have ha' : ¬ 1024 < (a.length : Int) := by omega
  by_cases hb : 1024 < b.length
  · have hb' : 1024 < (b.length : Int) := by omega
    go_enter Try.func3, Try.ntmps3
    go_wp2_with (first
      | (go_at_call 7; (with_reducible refine HB.out.mono ?_); rintro e w2 ⟨p, x, rfl, h2⟩; have HP := Lib.hid h2; clear h2)
      | (go_at_call 8; (with_reducible refine (law_awake _).mono ?_); rintro e w3 ⟨rfl, hc⟩; have HP := Lib.hid (HP.out.on0 hc); clear hc))
    go_ret
    exact ⟨rfl, HP.out.chg⟩
  have hb' : ¬ 1024 < (b.length : Int) := by omega
  by_cases hc : 1024 < c.length
  · have hc' : 1024 < (c.length : Int) := by omega
    go_enter Try.func3, Try.ntmps3
    go_wp2_with (first
      | (go_at_call 7; (with_reducible refine HB.out.mono ?_); rintro e w2 ⟨p, x, rfl, h2⟩; have HP := Lib.hid h2; clear h2)
      | (go_at_call 8; (with_reducible refine (law_awake _).mono ?_); rintro e w3 ⟨rfl, hc⟩; have HP := Lib.hid (HP.out.on0 hc); clear hc))
    go_ret
    exact ⟨rfl, HP.out.chg⟩
  have hc' : ¬ 1024 < (c.length : Int) := by omega
  obtain ⟨A1, A2, A3, A4, A5, r1, r2, r3, r5, e1, e2, e3, e4, e5, e6, e7, e8, e9, h1, h2, h3, h5, h⟩ := apart_of a b c (by omega) (by omega) (by omega)
  have na := chainNeed_bd (n := a.length) (by omega)
  have nb := chainNeed_bd (n := b.length) (by omega)
  have nc := chainNeed_bd (n := c.length) (by omega)
  obtain ⟨f1, g1⟩ : ∃ f, f = 40 - chainNeed a.length := ⟨_, rfl⟩
  obtain ⟨f2, g2⟩ : ∃ f, f = f1 - chainNeed b.length := ⟨_, rfl⟩
  obtain ⟨f3, g3⟩ : ∃ f, f = f2 - chainNeed c.length := ⟨_, rfl⟩
  obtain ⟨f4, g4⟩ : ∃ f, f = f3 + r2.length := ⟨_, rfl⟩
  obtain ⟨f5, g5⟩ : ∃ f, f = f4 - chainNeed a.length := ⟨_, rfl⟩
  have p1 := fun (wr : World) (p : Nat) (hp : At w wr p [] 40) => at_put_ok hp a (by omega) (by simp) (by omega)
  have p2 := fun (wr : World) (p : Nat) (hp : At w wr p A1 f1) => at_put_ok hp b (by omega) h.len.1 (by omega)
  have p3 := fun (wr : World) (p : Nat) (hp : At w wr p A2 f2) => at_put_ok hp c (by omega) h.len.2.1 (by omega)
  have p4 := fun (wr : World) (p : Nat) (hp : At w wr p A3 f3) => at_drop hp r2 h.c2 h2.some h2.few (by rw [h2.bytes]; omega) h2.nodup
  have p5 := fun (wr : World) (p : Nat) (hp : At w wr p A4 f4) => at_put_ok hp a (by omega) h.len.2.2.2 (by omega)
  have q1 := fun (wr : World) (p : Nat) (hp : At w wr p A5 f5) => at_get hp r1 h.b1 h1.some h1.few a h1.bytes (by omega)
  have q3 := fun (wr : World) (p : Nat) (hp : At w wr p A5 f5) => at_get hp r3 h.b3 h3.some h3.few c h3.bytes (by omega)
  have q5 := fun (wr : World) (p : Nat) (hp : At w wr p A5 f5) => at_get hp r5 h.b5 h5.some h5.few a h5.bytes (by omega)
  rw [← e1, ← e2, ← g1] at p1
  rw [← e3, ← e4, ← g2] at p2
  rw [← e5, ← e6, ← g3] at p3
  rw [← e7, ← g4] at p4
  rw [← e8, ← e9, ← g5] at p5
  have P1 := Lib.hid p1
  have P2 := Lib.hid p2
  have P3 := Lib.hid p3
  have P4 := Lib.hid p4
  have P5 := Lib.hid p5
  have Q1 := Lib.hid q1
  have Q3 := Lib.hid q3
  have Q5 := Lib.hid q5
  clear p1 p2 p3 p4 p5 q1 q3 q5 e1 e2 e3 e4 e5 e6 e7 e8 e9 h1 h2 h3 h5 h na nb nc g1 g2 g3 g4 g5
  have hemp : (⟨a.toArray⟩ : ByteArray) ++ ⟨#[]⟩ = ⟨a.toArray⟩ := by
    apply ByteArray.ext
    simp
  generalize nxt r1 = x1 at *
  generalize nxt r2 = x2 at *
  generalize nxt r3 = x3 at *
  generalize nxt r5 = x5 at *
  go_enter Try.func3, Try.ntmps3
  go_wp2_with (first
    | (go_at_call 7; (with_reducible refine HB.out.mono ?_); rintro e w2 ⟨p, x, rfl, h2⟩; have HP := Lib.hid h2; clear h2)
    | (go_at_call 8; (with_reducible refine (law_awake _).mono ?_); rintro e w3 ⟨rfl, hc⟩; have HP := Lib.hid (HP.out.on0 hc); clear hc)
    | (go_at_call 9; (first
        | (with_reducible refine (P1.out _ _ HP.out).mono ?_)
        | (with_reducible refine (P2.out _ _ HP.out).mono ?_)
        | (with_reducible refine (P3.out _ _ HP.out).mono ?_)
        | (with_reducible refine (P5.out _ _ HP.out).mono ?_)); rintro e w4 ⟨rfl, h4⟩; have HP := Lib.hid h4; clear h4)
    | (go_at_call 10; (with_reducible refine (P4.out _ _ HP.out).mono ?_); rintro e w4 ⟨rfl, h4⟩; have HP := Lib.hid h4; clear h4)
    | (go_at_call 11; (first
        | (with_reducible refine (Q1.out _ _ HP.out).mono ?_)
        | (with_reducible refine (Q3.out _ _ HP.out).mono ?_)
        | (with_reducible refine (Q5.out _ _ HP.out).mono ?_)); rintro e w4 ⟨rfl, h4⟩; have HP := Lib.hid h4; clear h4))
  go_ret
  exact ⟨rfl, HP.out.chg⟩

end Go.Proofs.Ytfdhlpdmbgjkdaa
