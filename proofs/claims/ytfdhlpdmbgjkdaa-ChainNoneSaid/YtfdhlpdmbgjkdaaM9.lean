/- A part of the walks of the program's functions, each a contract that its caller uses; no condition but what each theorem names. Steps of a region that draws its order: a call, an append; the walk of pool.New. The walk of pool.New. The walk of the reference's New of a pool. The walks of chain.two and chain.read. The walk of chain.walk. The walks of chain.Get, Pages, Drop. The walk of chain.Drop. The walks of chain.Put's closure and of chain.Put where the value is too great. The walk of chain.Put where there is room. -/
import Derived.Test.YtfdhlpdmbgjkdaaM8

namespace Go.Proofs.Ytfdhlpdmbgjkdaa
open Go.RowKit
set_option maxRecDepth 100000

section
variable {P : Program} {w : World} {ops : Array Oper} {o : Oper} {a : Act} {K : Act → World → Prop} {Q : Exit → Act → World → Prop} {E : Prop}

theorem step_append (hgd : o.guard = none) (s x : Operand) (t tx : TypeId) (ho : o.op = .call { callee := .builtin .append, args := #[s, x], argTypes := #[t, tx] })
    (e : TypeId) (size bytes : Nat) (z : Value) (ht : P.underlying t = some (.slice e)) (hi : (P.info? e).map (fun i => (i.zero, i.size, i.bytes)) = some (some z, size, bytes)) (hzs : z.cells.size = size) (hsz : 0 < size)
    (v : Value) (n m : Nat) (xs news : List Value) (hv : a.eval s = v) (hown : Own w e size v n xs) (hs : Src P size tx (a.eval x) m news w) (hbytes : (n + m) * bytes ≤ 140737488355328) (h63 : n + m ≤ maxLen)
    (h : ∀ ad c w', Own w' e size (.slice ad (n + m) c) (n + m) (xs ++ news) → Chg (ownBlk v) w w' → (∀ k ∈ ownBlk (.slice ad (n + m) c), k ∈ ownBlk v ∨ w.heap.size ≤ k) → c ≤ maxLen → n + m ≤ c →
      K (a.put o.dst (.slice ad (n + m) c)) w') : if Region.wanted o (yielded ops a.tmps) = true then Oper.wp P o a w K Q else E := by
  have hw : Region.wanted o (yielded ops a.tmps) = true := by simp [Region.wanted, hgd]
  rw [if_pos hw]
  obtain ⟨ad, c, w', hr, h1, h2, h3, h4, h5⟩ := run_append (P := P) (ty := o.type) z ht hi hzs hsz hown hs hbytes h63
  unfold Oper.wp execOp
  simp only [ho, resolve, invoke, builtin, Sem.run_bind, Sem.run_pure, Result.andThen_ok, List.map_toArray, List.map_cons, List.map_nil, hv, hr]
  exact h ad c w' h1 h2 h3 h4 h5

theorem step_enter (hgd : o.guard = none) (f : FuncId) (args : Array Value) (hrun : (execOp a.eval o).run P w = .ok (.enter f args) w) (v : Value) (R : World → Prop)
    (hc : Calls P f args w fun e w' => e = .returned v ∧ R w') (h : ∀ w', R w' → K (a.put o.dst v) w') : if Region.wanted o (yielded ops a.tmps) = true then Oper.wp P o a w K Q else E := by
  have hw : Region.wanted o (yielded ops a.tmps) = true := by simp [Region.wanted, hgd]
  rw [if_pos hw]
  unfold Oper.wp
  rw [hrun, Oper.upon_enter]
  refine hc.mono fun e w'' hh => ?_
  obtain ⟨rfl, hr⟩ := hh
  exact h _ hr
theorem run_enter0 {f : FuncId} {fn : Func} (ho : o.op = .call { callee := .value (.func f), args := #[], argTypes := #[] }) (hf : P.funcs[f]? = some fn) (hb : fn.body.isNone = false) (hn : (fn.name == "runtime.NumGoroutine") = false) :
    (execOp a.eval o).run P w = .ok (.enter f #[]) w := by
  have hn' : ¬ fn.name = "runtime.NumGoroutine" := by simpa using hn
  have hb' : ¬ fn.body = none := fun e => by rw [e] at hb; cases hb
  unfold execOp
  simp only [ho, resolve, invoke, Sem.run_bind]
  simp [Act.eval, go_sem]
  simp [callFunc, hf, hb', hn', Sem.run_bind]
end

theorem src_new {P : Program} {tx e' : TypeId} {size : Nat} (hk : P.underlying tx = some (.slice e')) (w : World) (T : TypeId) (cs : List Value) (m c : Nat) (hl : cs.length = m * size) (h1 : ∀ u ∈ cs, u.oneCell' = true) :
    Src P size tx (.slice (some ⟨w.heap.size, 0, none⟩) m c) m cs (w.alloc (.cells cs.toArray T)) := by
  refine Src.ofSlice _ hk _ m c cs hl ?_ h1
  intro j u hu
  rw [add_spot, (Blk.new w T cs).cell, Nat.zero_add]
  exact hu

theorem src_new' {P : Program} {tx e' : TypeId} {size : Nat} (hk : P.underlying tx = some (.slice e')) (w : World) (T : TypeId) (cs : List Value) (g m c : Nat) (hg : g = w.heap.size) (hl : cs.length = m * size) (h1 : ∀ u ∈ cs, u.oneCell' = true) :
    Src P size tx (.slice (some ⟨g, 0, none⟩) m c) m cs (w.alloc (.cells cs.toArray T)) := by
  subst hg
  exact src_new hk w T cs m c hl h1

theorem src_str {P : Program} {tx : TypeId} (hk : P.underlying tx = some .string) (w : World) (l : Bytes) : Src P 1 tx (.string ⟨l.toArray⟩) l.length (byts l) w := by
  have h := Src.ofString w hk ⟨l.toArray⟩
  have e1 : byteCells ⟨l.toArray⟩ = byts l := rfl
  have e2 : (⟨l.toArray⟩ : ByteArray).size = l.length := by simp [ByteArray.size]
  rw [e1, e2] at h
  exact h

structure NewSt (w wr : World) (T : TypeId) (p : Nat) (sv : Value) (k : Nat) (lv : Value) (e : TypeId) (xs : List Value) : Prop where
  st : Blk wr p T [sv, lv, intV 0]
  l : Own wr e 5 lv k xs
  np : p ∉ ownBlk lv
  nl : ∀ x ∈ ownBlk lv, w.heap.size ≤ x
  chg : Chg [] w wr
  new : w.heap.size ≤ p

theorem NewSt.on0 {w wr w2 : World} {T : TypeId} {p : Nat} {sv : Value} {k : Nat} {lv : Value} {e : TypeId} {xs : List Value} (h : NewSt w wr T p sv k lv e xs) (hc : Chg [] wr w2) : NewSt w w2 T p sv k lv e xs :=
  ⟨h.st.kept hc (by simp), h.l.kept hc (by simp), h.np, h.nl, h.chg.trans0 hc, h.new⟩
theorem NewSt.step {w wr w2 : World} {T : TypeId} {p : Nat} {sv : Value} {k m : Nat} {lv lv' : Value} {e : TypeId} {xs ys : List Value} (h : NewSt w wr T p sv k lv e xs) (hown : Own w2 e 5 lv' m ys) (hc : Chg (ownBlk lv) wr w2)
    (hg : ∀ x ∈ ownBlk lv', x ∈ ownBlk lv ∨ wr.heap.size ≤ x) : NewSt w (w2.setCell ⟨p, 1, none⟩ lv') T p sv m lv' e ys := by
  have hp := h.st.lt
  have hnp : p ∉ ownBlk lv' := fun hm => by
    rcases hg _ hm with h1 | h1
    · exact h.np h1
    · omega
  have hs := h.chg.size
  refine ⟨?_, hown.other _ _ hnp, hnp, fun x hx => ?_, ?_, h.new⟩
  · exact (h.st.kept hc h.np).set 1 lv'
  · rcases hg _ hx with h1 | h1
    · exact h.nl _ h1
    · omega
  · refine (h.chg.trans hc fun g hg' => .inr (h.nl g hg')).setCell _ _ (.inr h.new)

end Go.Proofs.Ytfdhlpdmbgjkdaa

namespace Go.Proofs.Ytfdhlpdmbgjkdaa
open Go.RowKit
set_option maxRecDepth 100000

theorem info_frame : (Try.prog.info? 86).map (fun i => (i.zero, i.size, i.bytes)) = some (some (frameV ⟨0, [], 0, false, false⟩), 5, 40) := by kernel_rfl
theorem framesCells_snoc (L : List Frame) (f : Frame) : framesCells (L ++ [f]) = framesCells L ++ f.cells := by simp [framesCells]

theorem empties_succ (k : Nat) : framesCells (List.replicate k Frame.empty) ++ [intV (-1), strV [], intV 0, .bool false, .bool false] = framesCells (List.replicate (k + 1) Frame.empty) := by
  rw [List.replicate_succ', framesCells_snoc]
  rfl

set_option maxHeartbeats 1000000 in
theorem pool_new_pool {w : World} {sb : StoreB} {S : Store} (h : StoreAt w sb S) (n : Nat) (h1 : 1 ≤ n) (h2 : n ≤ 32) :
    Calls Try.prog 21 #[ptrV sb.s, intV n] w fun e w' => ∃ b : PoolB, e = .returned (.tuple #[ptrV b.p, intV 0]) ∧ b.s = sb ∧ PoolAt w' b ⟨S, List.replicate n Frame.empty, 0⟩ ∧ Chg [] w w' ∧ ∀ k ∈ b.set, k ∈ sb.set ∨ w.heap.size ≤ k := by
  have HH := Lib.hid h
  have i1 : (1 : Int) ≤ (n : Int) := by omega
  have i2 : (n : Int) ≤ 32 := by omega
  have hst : NewSt w (w.alloc (.cells #[ptrV sb.s, .slice none 0 0, intV 0] 68)) 68 w.heap.size (ptrV sb.s) 0 (.slice none 0 0) 86 (framesCells (List.replicate 0 Frame.empty)) :=
    ⟨Blk.new w _ _, Own.nil _ _ _, by simp [ownBlk], by simp [ownBlk], (Chg.refl [] _).alloc _, Nat.le_refl _⟩
  have HS := Lib.hid hst
  have hem := fun (wr : World) => pool_empty wr
  have HEM := Lib.hid hem
  clear h hst hem
  go_enter Try.func21, Try.ntmps21
  go_wp2_with fail
  go_loopw [21] (fun i wr => ∃ (k : Nat) (lv : Value), k ≤ n ∧ i = .int .i64 k ∧ NewSt w wr 68 w.heap.size (ptrV sb.s) k lv 86 (framesCells (List.replicate k Frame.empty))) (fun i _ => n - (intOf i).toNat)
  case atStart => exact ⟨0, _, Nat.zero_le _, rfl, HS.out⟩
  case round =>
    obtain ⟨k, lv, hk, rfl, hs⟩ := hrel
    have k1 := hs.st.cell 1
    have k2 := hs.st.free 1
    simp at k1
    have HR := Lib.hid hs
    clear hs
    by_cases hlt : k < n
    · have hlt' : (k : Int) < (n : Int) := by omega
      have HKN := Lib.hid hlt
      clear hlt
      have hb1 : (k + 1) * 40 ≤ 140737488355328 := by omega
      have hb2 : k + 1 ≤ maxLen := by unfold maxLen; omega
      go_wp2_with fail
      go_region_law (first
        | ((refine step_append rfl _ _ _ _ (by with_reducible rfl) 86 5 40 _ Try.underlying66 info_frame (by rfl) (by omega) lv k 1 (framesCells (List.replicate k Frame.empty)) [intV (-1), strV [], intV 0, .bool false, .bool false] (by rfl) (by exact (H3.out.on0 ((Chg.refl [] _).alloc _)).l) (by exact src_new Try.underlying66 _ _ _ 1 1 rfl (Frame.cells_one Frame.empty)) hb1 hb2 ?_; intro ad c w4 hown hc4 hg4 hcm hnc; have OWN := Lib.hid hown; have C4 := Lib.hid hc4; have G4 := Lib.hid hg4; have k5 := ((H3.out.on0 ((Chg.refl [] _).alloc _)).st.kept hc4 H3.out.np).cell 1; have k6 := ((H3.out.on0 ((Chg.refl [] _).alloc _)).st.kept hc4 H3.out.np).free 1; simp at k5; clear hown hc4 hg4))
        | ((refine step_enter rfl 34 #[] (run_enter0 (by with_reducible rfl) Try.func34 rfl rfl) (.agg #[intV (-1), strV [], intV 0, .bool false, .bool false]) (fun w' => Chg [] _ w') (HEM.out _) ?_; intro w3 hc3; have H3 := Lib.hid ((HR.out.on0 ((Chg.refl [] _).drew)).on0 hc3); have k3 := H3.out.st.cell 1; have k4 := H3.out.st.free 1; simp at k3; have k3a := fun o => held_alloc k3 o; clear hc3)))
      all_goals
        go_wp2_with fail
        go_roundw
        case rel => exact ⟨k + 1, .slice ad (k + 1) c, by have := HKN.out; omega, by go_num, by rw [← empties_succ]; exact (H3.out.on0 ((Chg.refl [] _).alloc _)).step OWN.out C4.out G4.out⟩
        case measure => have := HKN.out; simp [intOf]; omega
    · obtain rfl : k = n := by omega
      go_wp2_with fail
      go_ret2
      obtain ⟨a1, a2, a3, a4, a5, a6⟩ := HR.out
      have hlt := HH.out.lt
      have hl : (List.replicate k Frame.empty).length = k := List.length_replicate
      refine ⟨⟨w.heap.size, sb, lv⟩, rfl, rfl, ⟨HH.out.kept a5 (by simp), ?_, a1, ⟨a3, fun hm => absurd (hlt w.heap.size hm) (Nat.lt_irrefl _)⟩, fun x hx hm => ?_, ?_, ?_, ?_⟩, a5, fun x hx => ?_⟩
      · show Own wr _ 5 lv (List.replicate k Frame.empty).length _
        rw [hl]; exact a2
      · have h6 := a4 _ hx; have := hlt _ hm; omega
      · show 0 < (List.replicate k Frame.empty).length
        omega
      · show (List.replicate k Frame.empty).length ≤ 32
        omega
      · show 0 < (List.replicate k Frame.empty).length
        omega
      · simp only [PoolB.set, List.mem_cons, List.mem_append] at hx
        rcases hx with rfl | hx | hx
        · exact .inr (Nat.le_refl _)
        · exact .inr (a4 _ hx)
        · exact .inl hx

end Go.Proofs.Ytfdhlpdmbgjkdaa

namespace Go.Proofs.Ytfdhlpdmbgjkdaa
open Go.RowKit
set_option maxRecDepth 100000

theorem info_rframe : (Try.prog.info? 92).map (fun i => (i.zero, i.size, i.bytes)) = some (some (frameV ⟨0, [], 0, false, false⟩), 5, 40) := by kernel_rfl

set_option maxHeartbeats 1000000 in
theorem ref15_new {w : World} (x n : Nat) (h2 : n ≤ 60000) :
    Calls Try.prog 22 #[ptrV x, intV n] w fun e w' => ∃ lv, e = .returned (ptrV w.heap.size) ∧ NewSt w w' 90 w.heap.size (ptrV x) n lv 92 (framesCells (List.replicate n Frame.empty)) := by
  have hst : NewSt w (w.alloc (.cells #[ptrV x, .slice none 0 0, intV 0] 90)) 90 w.heap.size (ptrV x) 0 (.slice none 0 0) 92 (framesCells (List.replicate 0 Frame.empty)) :=
    ⟨Blk.new w _ _, Own.nil _ _ _, by simp [ownBlk], by simp [ownBlk], (Chg.refl [] _).alloc _, Nat.le_refl _⟩
  have HS := Lib.hid hst
  clear hst
  go_enter Try.func22, Try.ntmps22
  go_wp2_with fail
  go_loopw [6] (fun i wr => ∃ (k : Nat) (lv : Value), k ≤ n ∧ i = .int .i64 k ∧ NewSt w wr 90 w.heap.size (ptrV x) k lv 92 (framesCells (List.replicate k Frame.empty))) (fun i _ => n - (intOf i).toNat)
  case atStart => exact ⟨0, _, Nat.zero_le _, rfl, HS.out⟩
  case round =>
    obtain ⟨k, lv, hk, rfl, hs⟩ := hrel
    have k1 := hs.st.cell 1
    have k2 := hs.st.free 1
    simp at k1
    have HR := Lib.hid hs
    clear hs
    by_cases hlt : k < n
    · have hlt' : (k : Int) < (n : Int) := by omega
      have HKN := Lib.hid hlt
      clear hlt
      have hb1 : (k + 1) * 40 ≤ 140737488355328 := by omega
      have hb2 : k + 1 ≤ maxLen := by unfold maxLen; omega
      go_wp2_with (refine wpList_append rfl (.tmp 19) (.tmp 21) 88 88 rfl 92 5 40 _ Try.underlying88 info_rframe (by rfl) (by omega) lv k 1 (framesCells (List.replicate k Frame.empty)) [intV (-1), strV [], intV 0, .bool false, .bool false] (by rfl) (by exact (HR.out.on0 ((Chg.refl [] _).alloc _)).l) (by exact src_new Try.underlying88 _ _ _ 1 1 rfl (Frame.cells_one Frame.empty)) hb1 hb2 ?_; intro ad c w4 hown hc4 hg4 hcm hnc; have OWN := Lib.hid hown; have C4 := Lib.hid hc4; have G4 := Lib.hid hg4; have k5 := ((HR.out.on0 ((Chg.refl [] _).alloc _)).st.kept hc4 HR.out.np).cell 1; have k6 := ((HR.out.on0 ((Chg.refl [] _).alloc _)).st.kept hc4 HR.out.np).free 1; simp at k5; clear hown hc4 hg4)
      go_roundw
      case rel => exact ⟨k + 1, .slice ad (k + 1) c, by have := HKN.out; omega, by go_num, by rw [← empties_succ]; exact (HR.out.on0 ((Chg.refl [] _).alloc _)).step OWN.out C4.out G4.out⟩
      case measure => have := HKN.out; simp [intOf]; omega
    · obtain rfl : k = n := by omega
      go_wp2_with fail
      go_ret
      exact ⟨lv, rfl, HR.out⟩

end Go.Proofs.Ytfdhlpdmbgjkdaa

namespace Go.Proofs.Ytfdhlpdmbgjkdaa
open Go.RowKit
set_option maxRecDepth 100000

attribute [local go_sem ↓] cut2_any

theorem byts_two (n : Int) (h0 : 0 ≤ n) (h1 : n ≤ 65535) : byts (two n) = [.int .u8 (n / 256), .int .u8 (n % 256)] := by
  have e1 := byt_mod (n / 256)
  have e2 := byt_mod n
  rw [show n / 256 % 256 = n / 256 by omega] at e1
  unfold byts
  simp only [two, List.map_cons, List.map_nil]
  rw [show n / 256 % 256 = n / 256 by omega, e1, e2]

theorem chain_two (n : Int) (w : World) (h0 : 0 ≤ n) (h1 : n ≤ 65535) :
    Calls Try.prog 25 #[intV n] w fun e w' => e = .returned (strV (two n)) ∧ Chg [] w w' := by
  have hb := byts_two n h0 h1
  have HB := Lib.hid hb
  clear hb
  go_enter Try.func25, Try.ntmps25
  go_wp2_with (refine wpList_bytes_str rfl (.tmp 8) 65 9 5 rfl Try.underlying65 Try.underlying5 Try.underlying9 w.heap.size 0 2 2 (two n) rfl [.int .u8 (n / 256), .int .u8 (n % 256)] 5 (Blk.new w _ _) (by rw [HB.out]; rfl) rfl ?_)
  go_ret
  exact ⟨rfl, (Chg.refl _ _).alloc _⟩

theorem chain_read_no {w : World} {b : PoolB} {A : Pages} {f : Nat} (h : PoolIs w b A f) (l : Int) (ha : lookup A l = none) :
    Calls Try.prog 38 #[ptrV b.p, intV l] w fun e w' => e = .returned (.tuple #[.agg #[intV 0, strV []], intV 3]) ∧ PoolIs w' b A f ∧ Chg b.set w w' := by
  have hg := fun (wr : World) (hc : Chg [] w wr) => pool_get_no (h.kept0 hc) l ha
  have HG := Lib.hid hg
  have HN : Hid (w.heap.size ∉ b.set) := Lib.hid (fun hm => absurd (h.lt _ hm) (Nat.lt_irrefl _))
  have HB : Hid (Blk (w.alloc (.cells #[intV 0, strV []] 95)) w.heap.size 95 [intV 0, strV []]) := Lib.hid (Blk.new w _ _)
  clear hg h ha
  go_enter Try.func38, Try.ntmps38
  go_wp2_with (first
    | (go_at_call 56; with_reducible refine (HG.out _ ((Chg.refl _ _).alloc _)).mono ?_; rintro e w1 ⟨rfl, h1, hc1⟩; have H1 := Lib.hid h1; have C1 := Lib.hid hc1; have B1 := Lib.hid (HB.out.kept hc1 HN.out); have c0 := B1.out.cell 0; have c1 := B1.out.cell 1; have f0 := B1.out.free 0; have f1 := B1.out.free 1; simp at c0 c1; clear h1 hc1))
  have hc : Chg [w.heap.size] w1 ((w1.setCell ⟨w.heap.size, 0, none⟩ (intV 0)).setCell ⟨w.heap.size, 1, none⟩ (strV [])) := ((Chg.refl _ _).setCell _ _ (.inl (by simp))).setCell _ _ (.inl (by simp))
  refine bodyPost_ret (v := .tuple #[.agg #[intV 0, strV []], intV 3]) (by simp [results, Try.results38, go_sem, c0, c1]) rfl ⟨rfl, H1.out.kept hc (fun k hk hm => by simp at hm; subst hm; exact absurd hk HN.out), ?_⟩
  exact ((((Chg.refl _ _).alloc _).trans1 C1.out).trans hc (fun g hg => by simp at hg; subst hg; exact .inr (Nat.le_refl _)))

theorem wrap64_small (n : Int) (h0 : -9223372036854775808 ≤ n) (h1 : n ≤ 9223372036854775807) : wrap64 n = n := by unfold wrap64; omega
theorem or_nat (x y : Nat) (hy : y < 256) : x * 256 ||| y = x * 256 + y := by
  have := Nat.shiftLeft_add_eq_or_of_lt (a := x) (b := y) (i := 8) (by omega)
  rw [Nat.shiftLeft_eq] at this
  exact this.symm
theorem or_bytes (x y : UInt8) : bits BinOp.or IntKind.i64 (wrap64 (wrap64 (x.toNat : Int) * 256)) (wrap64 (y.toNat : Int)) = untwo x y := by
  have hx := x.toNat_lt
  have hy := y.toNat_lt
  rw [wrap64_small (x.toNat : Int) (by omega) (by omega), wrap64_small (y.toNat : Int) (by omega) (by omega), wrap64_small _ (by omega) (by omega)]
  have e : (BitVec.ofInt IntKind.i64.bits ((x.toNat : Int) * 256) ||| BitVec.ofInt IntKind.i64.bits (y.toNat : Int)).toNat = x.toNat * 256 + y.toNat := by
    have hb : IntKind.i64.bits = 64 := rfl
    rw [BitVec.toNat_or, BitVec.toNat_ofInt, BitVec.toNat_ofInt, hb]
    have e1 : (((x.toNat : Int) * 256) % ((2 ^ 64 : Nat) : Int)).toNat = x.toNat * 256 := by omega
    have e2 : ((y.toNat : Int) % ((2 ^ 64 : Nat) : Int)).toNat = y.toNat := by omega
    rw [e1, e2]
    exact or_nat _ _ hy
  unfold bits
  dsimp only
  rw [e]
  have := IntWalk.i64_in ((x.toNat * 256 + y.toNat : Nat) : Int) (by omega)
  rw [this]
  unfold untwo
  omega
theorem ix0 (b0 b1 b2 b3 : UInt8) (rest : Bytes) (h) : ({ data := (b0 :: b1 :: b2 :: b3 :: rest).toArray } : ByteArray)[0]'h = b0 := rfl
theorem ix1 (b0 b1 b2 b3 : UInt8) (rest : Bytes) (h) : ({ data := (b0 :: b1 :: b2 :: b3 :: rest).toArray } : ByteArray)[1]'h = b1 := rfl
theorem ix2 (b0 b1 b2 b3 : UInt8) (rest : Bytes) (h) : ({ data := (b0 :: b1 :: b2 :: b3 :: rest).toArray } : ByteArray)[2]'h = b2 := rfl
theorem ix3 (b0 b1 b2 b3 : UInt8) (rest : Bytes) (h) : ({ data := (b0 :: b1 :: b2 :: b3 :: rest).toArray } : ByteArray)[3]'h = b3 := rfl

theorem untwo_nonneg (a b : UInt8) : 0 ≤ untwo a b := by unfold untwo; omega
theorem chain_read_yes {w : World} {b : PoolB} {A : Pages} {f : Nat} (h : PoolIs w b A f) (l : Int) (b0 b1 b2 b3 : UInt8) (rest : Bytes) (hl : rest.length = 228) (ha : lookup A l = some (b0 :: b1 :: b2 :: b3 :: rest)) (hk : untwo b2 b3 ≤ 228) :
    Calls Try.prog 38 #[ptrV b.p, intV l] w fun e w' => e = .returned (.tuple #[.agg #[intV (untwo b0 b1 - 1), strV (rest.take (untwo b2 b3).toNat)], intV 0]) ∧ PoolIs w' b A f ∧ Chg b.set w w' := by
  have hg := fun (wr : World) (hc : Chg [] w wr) => pool_get_yes (h.kept0 hc) l ha
  have HG := Lib.hid hg
  have HN : Hid (w.heap.size ∉ b.set) := Lib.hid (fun hm => absurd (h.lt _ hm) (Nat.lt_irrefl _))
  have HB : Hid (Blk (w.alloc (.cells #[intV 0, strV []] 95)) w.heap.size 95 [intV 0, strV []]) := Lib.hid (Blk.new w _ _)
  have hx : -1 ≤ untwo b0 b1 - 1 := by have := untwo_nonneg b0 b1; omega
  have hx2 : untwo b0 b1 ≤ 65535 := by have := b0.toNat_lt; have := b1.toNat_lt; unfold untwo; omega
  have hk0 := untwo_nonneg b2 b3
  obtain ⟨k, hkk⟩ : ∃ k : Nat, untwo b2 b3 = k := ⟨(untwo b2 b3).toNat, by omega⟩
  obtain ⟨x, hxx⟩ : ∃ x : Int, untwo b0 b1 = x := ⟨_, rfl⟩
  rw [hkk] at hk
  rw [hxx] at hx hx2
  rw [hkk, hxx, Int.toNat_natCast]
  have hin : InStr2 (strV (b0 :: b1 :: b2 :: b3 :: rest)) (.int .i64 4) (.int .i64 (4 + (k : Int))) := ⟨_, 4, 4 + k, rfl, rfl, by rw [Int.natCast_add]; rfl, by omega, by simp [hl]; omega⟩
  have hcut : cut2 (strV (b0 :: b1 :: b2 :: b3 :: rest)) (.int .i64 4) (.int .i64 (4 + (k : Int))) = strV (rest.take k) := by
    rw [cut2_str]
    have e1 : (4 + (k : Int)).toNat = k + 4 := by omega
    rw [e1]
    rfl
  have HKK := Lib.hid hkk
  have HXX := Lib.hid hxx
  clear hg h ha hkk hxx hk0
  go_enter Try.func38, Try.ntmps38
  go_wp2_with (first
    | (go_at_call 56; with_reducible refine (HG.out _ ((Chg.refl _ _).alloc _)).mono ?_; rintro e w1 ⟨rfl, h1, hc1⟩; have H1 := Lib.hid h1; have C1 := Lib.hid hc1; have B1 := Lib.hid (HB.out.kept hc1 HN.out); have c0 := B1.out.cell 0; have c1 := B1.out.cell 1; have f0 := B1.out.free 0; have f1 := B1.out.free 1; simp at c0 c1; clear h1 hc1))
  go_quiet (fail)
  simp only [ix0, ix1, ix2, ix3, or_bytes]
  rw [HKK.out, HXX.out]
  go_wp2_with fail
  have hc : Chg [w.heap.size] w1 (((w1.drewN nq).setCell ⟨w.heap.size, 0, none⟩ (intV (x - 1))).setCell ⟨w.heap.size, 1, none⟩ (strV (rest.take k))) := ((((Chg.refl _ _).drewN nq)).setCell _ _ (.inl (by simp))).setCell _ _ (.inl (by simp))
  refine bodyPost_ret (v := .tuple #[.agg #[intV (x - 1), strV (rest.take k)], intV 0]) (by simp [results, Try.results38, go_sem, c0, c1]) rfl ⟨rfl, H1.out.kept hc (fun k hk hm => by simp at hm; subst hm; exact absurd hk HN.out), ?_⟩
  exact ((((Chg.refl _ _).alloc _).trans1 C1.out).trans hc (fun g hg => by simp at hg; subst hg; exact .inr (Nat.le_refl _)))

/-- The bytes of a link, as chain.read takes them apart. -/
theorem link_cons (next : Int) (pc : Bytes) (h0 : -1 ≤ next) (h1 : next ≤ 65534) (hp : pc.length ≤ 228) :
    ∃ b0 b1 b2 b3 rest, pad (linkBytes next pc) = b0 :: b1 :: b2 :: b3 :: rest ∧ List.length rest = 228 ∧ untwo b0 b1 = next + 1 ∧ untwo b2 b3 = pc.length ∧ rest.take pc.length = pc := by
  have hl : (linkBytes next pc).length = 4 + pc.length := by simp [linkBytes, two]; omega
  refine ⟨UInt8.ofNat (((next + 1) / 256 % 256).toNat), UInt8.ofNat (((next + 1) % 256).toNat), UInt8.ofNat (((pc.length : Int) / 256 % 256).toNat), UInt8.ofNat (((pc.length : Int) % 256).toNat), pc ++ List.replicate (232 - (linkBytes next pc).length) 0, rfl, ?_, ?_, ?_, ?_⟩
  · simp [hl]; omega
  · unfold untwo
    simp only [UInt8.toNat_ofNat']
    omega
  · unfold untwo
    simp only [UInt8.toNat_ofNat']
    omega
  · simp

theorem chain_read_link {w : World} {b : PoolB} {A : Pages} {f : Nat} (h : PoolIs w b A f) (l next : Int) (pc : Bytes) (h0 : -1 ≤ next) (h1 : next ≤ 65534) (hp : pc.length ≤ 228) (ha : lookup A l = some (pad (linkBytes next pc))) :
    Calls Try.prog 38 #[ptrV b.p, intV l] w fun e w' => e = .returned (.tuple #[.agg #[intV next, strV pc], intV 0]) ∧ PoolIs w' b A f ∧ Chg b.set w w' := by
  obtain ⟨b0, b1, b2, b3, rest, e1, e2, e3, e4, e5⟩ := link_cons next pc h0 h1 hp
  rw [e1] at ha
  have := chain_read_yes h l b0 b1 b2 b3 rest e2 ha (by omega)
  rw [e3, e4, Int.toNat_natCast, e5, show next + 1 - 1 = next by omega] at this
  exact this

end Go.Proofs.Ytfdhlpdmbgjkdaa

namespace Go.Proofs.Ytfdhlpdmbgjkdaa
open Go.RowKit
set_option maxRecDepth 100000

/-! a slice of bytes that owns its row, as a string -/
def IsOwnB (w : World) (v : Value) : Prop := ∃ l : Bytes, Own w 5 1 v l.length (byts l)
theorem Own.bytesAt {w : World} {T : TypeId} {v : Value} {l : Bytes} (h : Own w T 1 v l.length (byts l)) : bytesAt w v = l := by
  rcases h.2 with ⟨a, rfl, hn⟩ | ⟨g, cap, cur, rfl, hB, hn, -, -, -, h3⟩
  · have hl : l = [] := List.eq_nil_of_length_eq_zero hn
    subst hl
    cases a with
    | none => rfl
    | some a =>
      simp only [Proofs.Ytfdhlpdmbgjkdaa.bytesAt]
      split <;> simp
  · exact bytesAt_blk (off := 0) hB (by simpa using h3)
theorem conv_own {ρ : Operand → Value} {w : World} {x : Operand} {dst type pos after guard} (h : IsOwnB w (ρ x)) :
    (execOp ρ { dst := dst, op := .convert 65 9 x, type := type, pos := pos, after := after, guard := guard }).run Try.prog w = .ok (.value (strV (bytesAt w (ρ x)))) w := by
  obtain ⟨l, h⟩ := h
  rw [h.bytesAt]
  rcases h.2 with ⟨ad, hv, hn⟩ | ⟨g, cap, cur, hv, hB, hn, h0, h1, h2, h3⟩
  · have hl : l = [] := List.eq_nil_of_length_eq_zero hn
    subst hl
    have hr : (convert 65 9 (ρ x)).run Try.prog w = .ok (strV []) w := by
      rw [hv]
      cases ad with
      | none => rw [run_convert_bytes_nil (P := Try.prog) w 65 5 Try.underlying65 Try.underlying5 0 0 9 Try.underlying9]; rfl
      | some ad =>
        have := run_convert_bytes_string (P := Try.prog) w 65 9 5 (some ad) 0 0 Try.underlying65 Try.underlying5 Try.underlying9
        rw [this, run_bytesToString w ad 0 0 [] (by simp [loadCells, loadCellsFrom])]
        rfl
    simp only [execOp, Sem.run_bind, Sem.run_pure, Result.andThen_ok, hr]
  · simp only [execOp, hv, Sem.run_bind, Sem.run_pure, Result.andThen_ok, run_bytes_str (l := l) (off := 0) Try.underlying65 Try.underlying5 Try.underlying9 hB (by simpa using h3) rfl]
theorem isOwnB_drewN (w : World) (v : Value) (n : Nat) : IsOwnB (w.drewN n) v = IsOwnB w v := rfl
theorem bytesAt_drewN (w : World) (v : Value) (n : Nat) : bytesAt (w.drewN n) v = bytesAt w v := rfl
theorem isOwnB_drew (w : World) (v : Value) : IsOwnB w.drew v = IsOwnB w v := rfl
theorem bytesAt_drew (w : World) (v : Value) : bytesAt w.drew v = bytesAt w v := rfl
attribute [local go_sem ↓] conv_own
attribute [local go_sem] isOwnB_drewN bytesAt_drewN isOwnB_drew bytesAt_drew

structure WalkSt (w wr : World) (b : PoolB) (A : Pages) (f : Nat) (lv bv : Value) (ps : List Int) (bs : Bytes) : Prop where
  pool : PoolIs wr b A f
  l : Own wr 3 1 lv ps.length (ints ps)
  bb : Own wr 5 1 bv bs.length (byts bs)
  nl : ∀ k ∈ ownBlk lv, w.heap.size ≤ k
  nb : ∀ k ∈ ownBlk bv, w.heap.size ≤ k
  ap : ∀ k ∈ ownBlk lv, k ∉ ownBlk bv
  chg : Chg b.set w wr
  lt : ∀ k ∈ b.set, k < w.heap.size

theorem WalkSt.on {w wr w2 : World} {b : PoolB} {A : Pages} {f : Nat} {lv bv : Value} {ps : List Int} {bs : Bytes} (h : WalkSt w wr b A f lv bv ps bs) (hp : PoolIs w2 b A f) (hc : Chg b.set wr w2) : WalkSt w w2 b A f lv bv ps bs :=
  ⟨hp, h.l.kept hc fun k hk hm => by have := h.nl k hk; have := h.lt k hm; omega, h.bb.kept hc fun k hk hm => by have := h.nb k hk; have := h.lt k hm; omega, h.nl, h.nb, h.ap, h.chg.trans1 hc, h.lt⟩
theorem WalkSt.on0 {w wr w2 : World} {b : PoolB} {A : Pages} {f : Nat} {lv bv : Value} {ps : List Int} {bs : Bytes} (h : WalkSt w wr b A f lv bv ps bs) (hc : Chg [] wr w2) : WalkSt w w2 b A f lv bv ps bs :=
  h.on (h.pool.kept0 hc) (hc.mono (by simp))
theorem WalkSt.stepL {w wr w2 : World} {b : PoolB} {A : Pages} {f : Nat} {lv lv' bv : Value} {ps : List Int} {bs : Bytes} {p : Int} (h : WalkSt w wr b A f lv bv ps bs)
    (hown : Own w2 3 1 lv' (ps.length + 1) (ints ps ++ [intV p])) (hc : Chg (ownBlk lv) wr w2) (hg : ∀ k ∈ ownBlk lv', k ∈ ownBlk lv ∨ wr.heap.size ≤ k) : WalkSt w w2 b A f lv' bv (ps ++ [p]) bs := by
  have hs := h.chg.size
  have hb := h.bb.lt
  refine ⟨h.pool.kept hc fun k hk hm => by have := h.lt k hk; have := h.nl k hm; omega, ?_, h.bb.kept hc fun k hk hm => h.ap k hm hk, fun k hk => ?_, h.nb, fun k hk hm => ?_, ?_, h.lt⟩
  · rw [List.length_append, show ints (ps ++ [p]) = ints ps ++ [intV p] by simp [ints]]
    exact hown
  · rcases hg k hk with h1 | h1
    · exact h.nl k h1
    · omega
  · rcases hg k hk with h1 | h1
    · exact h.ap k h1 hm
    · have := hb k hm; omega
  · exact h.chg.trans hc fun g hg' => .inr (h.nl g hg')
theorem WalkSt.stepB {w wr w2 : World} {b : PoolB} {A : Pages} {f : Nat} {lv bv bv' : Value} {ps : List Int} {bs pc : Bytes} (h : WalkSt w wr b A f lv bv ps bs)
    (hown : Own w2 5 1 bv' (bs.length + pc.length) (byts bs ++ byts pc)) (hc : Chg (ownBlk bv) wr w2) (hg : ∀ k ∈ ownBlk bv', k ∈ ownBlk bv ∨ wr.heap.size ≤ k) : WalkSt w w2 b A f lv bv' ps (bs ++ pc) := by
  have hs := h.chg.size
  have hb := h.l.lt
  refine ⟨h.pool.kept hc fun k hk hm => by have := h.lt k hk; have := h.nb k hm; omega, h.l.kept hc fun k hk hm => h.ap k hk hm, ?_, h.nl, fun k hk => ?_, fun k hk hm => ?_, ?_, h.lt⟩
  · rw [List.length_append, show byts (bs ++ pc) = byts bs ++ byts pc by simp [byts]]
    exact hown
  · rcases hg k hk with h1 | h1
    · exact h.nb k h1
    · omega
  · rcases hg k hm with h1 | h1
    · exact h.ap k hk h1
    · have := hb k hk; omega
  · exact h.chg.trans hc fun g hg' => .inr (h.nb g hg')

theorem Chain.tail {A : Pages} : ∀ {dn rs : List Link}, Chain A (dn ++ rs) → Chain A rs
  | [], _, h => h
  | _ :: dn, _, h => Chain.tail (dn := dn) h.2.2.2

theorem chain_need5 (w : World) : Calls Try.prog 13 #[intV 1024] w fun e w' => e = .returned (intV 5) ∧ w = w' := by
  have := chain_need 1024 w (by omega)
  exact this

set_option maxHeartbeats 2000000 in
theorem chain_walk_ok {w : World} {b : PoolB} {A : Pages} {f : Nat} (h : PoolIs w b A f) (r : List Link) (hr : Chain A r) (hne : r ≠ []) (h5 : r.length ≤ 5) (hb : (cbytes r).length ≤ 1024) (first : Int) (hf : nxt r = first) :
    Calls Try.prog 27 #[ptrV b.p, intV first] w fun e w' => ∃ lv bv, e = .returned (.tuple #[lv, strV (cbytes r), intV 0]) ∧ WalkSt w w' b A f lv bv (cpages r) (cbytes r) := by
  have hst : WalkSt w w b A f (.slice none 0 0) (.slice none 0 0) (cpages []) (cbytes []) := ⟨h, Own.nil _ _ _, Own.nil _ _ _, by simp [ownBlk], by simp [ownBlk], by simp [ownBlk], Chg.refl _ _, h.lt⟩
  have HS := Lib.hid hst
  have HC := Lib.hid hr
  have HL := Lib.hid h5
  have HB := Lib.hid hb
  have HNE := Lib.hid hne
  have HFI := Lib.hid hf
  clear hst hr h5 hb hne h hf
  go_enter Try.func27, Try.ntmps27
  go_wp2_with (first
    | (go_at_call 13; with_reducible refine (chain_need5 _).mono ?_; rintro e w1 ⟨rfl, rfl⟩))
  go_loopw [7, 8, 9, 16] (fun lv bv at_ i wr => ∃ (dn rs : List Link) (x : Int), r = dn ++ rs ∧ rs ≠ [] ∧ nxt rs = x ∧ at_ = intV x ∧ i = .int .i64 (dn.length : Nat) ∧ WalkSt w wr b A f lv bv (cpages dn) (cbytes dn)) (fun _ _ _ i _ => 5 - (intOf i).toNat)
  case atStart => exact ⟨[], r, first, rfl, HNE.out, HFI.out, rfl, rfl, HS.out⟩
  case round =>
    obtain ⟨dn, rs, l', hrr, hrs, hll, rfl, rfl, hs⟩ := hrel
    cases rs with
    | nil => exact absurd rfl hrs
    | cons x rs =>
      obtain ⟨l, pc⟩ := x
      obtain rfl : l = l' := hll
      have hch : Chain A ((l, pc) :: rs) := Chain.tail (dn := dn) (by rw [← hrr]; exact HC.out)
      obtain ⟨c1, c2, c3, c4⟩ := hch
      have nb := c4.nxt_bd
      have hl1 : dn.length + (rs.length + 1) ≤ 5 := by have := HL.out; rw [hrr] at this; simpa using this
      have hl2 : (cbytes dn).length + pc.length ≤ 1024 := by
        have := HB.out
        rw [hrr] at this
        simp [cbytes] at this ⊢
        omega
      have hl0 : (dn.length : Int) < 5 := by omega
      have hread := chain_read_link hs.pool l (nxt rs) pc nb.1 (by omega) c2 c1
      have HR := Lib.hid hread
      have HW := Lib.hid hs
      have HRR := Lib.hid hrr
      have HCR := Lib.hid c4
      clear hread hs hrr c1 c4 hrs
      obtain ⟨nx, hnx⟩ : ∃ nx, nxt rs = nx := ⟨_, rfl⟩
      rw [hnx] at HR nb
      have HNX := Lib.hid hnx
      clear hnx
      obtain ⟨ps, hps⟩ : ∃ ps, cpages dn = ps := ⟨_, rfl⟩
      obtain ⟨bs, hbs⟩ : ∃ bs, cbytes dn = bs := ⟨_, rfl⟩
      have hpl : ps.length = dn.length := by rw [← hps]; simp [cpages]
      rw [hps, hbs] at HW
      rw [hbs] at hl2
      have HPS := Lib.hid hps
      have HBS := Lib.hid hbs
      have hpl2 : ps.length ≤ 5 := by omega
      have HPL := Lib.hid hpl
      clear hps hbs hpl
      obtain ⟨la, lc, rfl, hla, hlc⟩ := HW.out.l.shape
      obtain ⟨ba, bc, rfl, hba, hbc⟩ := HW.out.bb.shape
      by_cases hneg : nx < 0
      · go_wp2_with (first
          | (go_at_call 38; with_reducible refine HR.out.mono ?_; rintro e w1 ⟨rfl, h1, hc1⟩; have W1 := Lib.hid (HW.out.on h1 hc1); clear h1 hc1)
          | (refine wpList_append rfl (.tmp 36) (.tmp 38) 34 34 rfl 3 1 8 (intV 0) Try.underlying34 info_int rfl (by omega) (.slice la ps.length lc) ps.length 1 (ints ps) [intV l] rfl (by exact (W1.out.on0 (((Chg.refl [] _).alloc _).alloc _)).l) (by exact src_new' Try.underlying34 _ 3 [intV l] _ 1 1 (by simp) rfl (by simp [Value.oneCell'])) (by omega) (by unfold maxLen; omega) ?_; intro ad c w2 hown hc2 hg2 hcm hnc
             have W2 := Lib.hid ((W1.out.on0 (((Chg.refl [] _).alloc _).alloc _)).stepL hown hc2 hg2)
             have B2 := Lib.hid (Blk.kept ((Blk.new w1 95 [intV nx, strV pc]).alloc _) hc2 (fun hm => absurd (W1.out.l.lt _ hm) (Nat.lt_irrefl _)))
             have k1 := B2.out.cell 1; have k0 := B2.out.cell 0; simp at k0 k1; clear hown hc2 hg2)
          | (refine wpList_append rfl (.tmp 40) (.tmp 42) 65 9 rfl 5 1 1 (bytV 0) Try.underlying65 info_u8 rfl (by omega) (.slice ba bs.length bc) bs.length pc.length (byts bs) (byts pc) rfl W2.out.bb (src_str Try.underlying9 _ pc) (by omega) (by unfold maxLen; omega) ?_; intro ad2 c2 w3 hown hc2 hg2 hcm2 hnc2
             have W3 := Lib.hid (W2.out.stepB hown hc2 hg2)
             have B3 := Lib.hid (Blk.kept B2.out hc2 (fun hm => absurd (W1.out.bb.lt _ hm) (Nat.lt_irrefl _)))
             have k1 := B3.out.cell 1; have k0 := B3.out.cell 0; simp at k0 k1; clear hown hc2 hg2))
        have hob : IsOwnB w3 (.slice ad2 (bs.length + pc.length) c2) := ⟨bs ++ pc, by have := W3.out.bb; rw [List.length_append] at this ⊢; exact this⟩
        have hbv : bytesAt w3 (.slice ad2 (bs.length + pc.length) c2) = bs ++ pc := by have := W3.out.bb; rw [List.length_append] at this; exact (show Own w3 5 1 (.slice ad2 (bs.length + pc.length) c2) (bs ++ pc).length (byts (bs ++ pc)) by rw [List.length_append]; exact this).bytesAt
        have HOB := Lib.hid hbv
        clear hbv
        go_region
        go_wp2_with fail
        go_ret3
        have hrn : rs = [] := by
          cases rs with
          | nil => rfl
          | cons y ys =>
            have h1 := lookup_nonneg HCR.out.1
            have h2 : y.1 = nx := HNX.out
            omega
        have e1 : cpages r = ps ++ [l] := by rw [HRR.out, hrn, ← HPS.out]; simp [cpages]
        have e2 : cbytes r = bs ++ pc := by rw [HRR.out, hrn, ← HBS.out]; simp [cbytes]
        rw [e1, e2]
        exact ⟨.slice ad (ps.length + 1) c, .slice ad2 (bs.length + pc.length) c2, by rw [HOB.out]; rfl, W3.out.on0 ((Chg.refl _ _).drew)⟩
      · have hneg2 : 0 ≤ nx := by omega
        go_wp2_with (first
          | (go_at_call 38; with_reducible refine HR.out.mono ?_; rintro e w1 ⟨rfl, h1, hc1⟩; have W1 := Lib.hid (HW.out.on h1 hc1); clear h1 hc1)
          | (refine wpList_append rfl (.tmp 36) (.tmp 38) 34 34 rfl 3 1 8 (intV 0) Try.underlying34 info_int rfl (by omega) (.slice la ps.length lc) ps.length 1 (ints ps) [intV l] rfl (by exact (W1.out.on0 (((Chg.refl [] _).alloc _).alloc _)).l) (by exact src_new' Try.underlying34 _ 3 [intV l] _ 1 1 (by simp) rfl (by simp [Value.oneCell'])) (by omega) (by unfold maxLen; omega) ?_; intro ad c w2 hown hc2 hg2 hcm hnc
             have W2 := Lib.hid ((W1.out.on0 (((Chg.refl [] _).alloc _).alloc _)).stepL hown hc2 hg2)
             have B2 := Lib.hid (Blk.kept ((Blk.new w1 95 [intV nx, strV pc]).alloc _) hc2 (fun hm => absurd (W1.out.l.lt _ hm) (Nat.lt_irrefl _)))
             have k1 := B2.out.cell 1; have k0 := B2.out.cell 0; simp at k0 k1; clear hown hc2 hg2)
          | (refine wpList_append rfl (.tmp 40) (.tmp 42) 65 9 rfl 5 1 1 (bytV 0) Try.underlying65 info_u8 rfl (by omega) (.slice ba bs.length bc) bs.length pc.length (byts bs) (byts pc) rfl W2.out.bb (src_str Try.underlying9 _ pc) (by omega) (by unfold maxLen; omega) ?_; intro ad2 c2 w3 hown hc2 hg2 hcm2 hnc2
             have W3 := Lib.hid (W2.out.stepB hown hc2 hg2)
             have B3 := Lib.hid (Blk.kept B2.out hc2 (fun hm => absurd (W1.out.bb.lt _ hm) (Nat.lt_irrefl _)))
             have k1 := B3.out.cell 1; have k0 := B3.out.cell 0; simp at k0 k1; clear hown hc2 hg2))
        go_roundw
        case rel =>
          have hrn : rs ≠ [] := fun e => by
            have := HNX.out
            rw [e] at this
            have h2 : (-1 : Int) = nx := this
            omega
          refine ⟨dn ++ [(l, pc)], rs, nx, by rw [HRR.out]; simp, hrn, HNX.out, rfl, by rw [List.length_append]; go_num, ?_⟩
          have e1 : cpages (dn ++ [(l, pc)]) = ps ++ [l] := by rw [← HPS.out]; simp [cpages]
          have e2 : cbytes (dn ++ [(l, pc)]) = bs ++ pc := by rw [← HBS.out]; simp [cbytes]
          rw [e1, e2]
          exact W3.out
        case measure => simp [intOf]; omega

end Go.Proofs.Ytfdhlpdmbgjkdaa

namespace Go.Proofs.Ytfdhlpdmbgjkdaa
open Go.RowKit
set_option maxRecDepth 100000

theorem chain_get_ok {w : World} {b : PoolB} {A : Pages} {f : Nat} (h : PoolIs w b A f) (r : List Link) (hr : Chain A r) (hne : r ≠ []) (h5 : r.length ≤ 5) (hb : (cbytes r).length ≤ 1024) (first : Int) (hf : nxt r = first) :
    Calls Try.prog 11 #[ptrV b.p, intV first] w fun e w' => e = .returned (.tuple #[strV (cbytes r), intV 0]) ∧ PoolIs w' b A f ∧ Chg b.set w w' := by
  have HW := Lib.hid (chain_walk_ok h r hr hne h5 hb first hf)
  clear h hr hne h5 hb hf
  generalize cbytes r = cb at *
  generalize cpages r = cp at *
  go_enter Try.func11, Try.ntmps11
  go_wp2_with (first
    | (go_at_call 27; with_reducible refine HW.out.mono ?_; rintro e w1 ⟨lv, bv, rfl, hw⟩; have H1 := Lib.hid hw; clear hw))
  go_ret2
  exact ⟨rfl, H1.out.pool, H1.out.chg⟩

theorem chain_pages_ok {w : World} {b : PoolB} {A : Pages} {f : Nat} (h : PoolIs w b A f) (r : List Link) (hr : Chain A r) (hne : r ≠ []) (h5 : r.length ≤ 5) (hb : (cbytes r).length ≤ 1024) (first : Int) (hf : nxt r = first) :
    Calls Try.prog 12 #[ptrV b.p, intV first] w fun e w' => ∃ lv, e = .returned (.tuple #[lv, intV 0]) ∧ Own w' 3 1 lv (cpages r).length (ints (cpages r)) ∧ PoolIs w' b A f ∧ Chg b.set w w' := by
  have HW := Lib.hid (chain_walk_ok h r hr hne h5 hb first hf)
  clear h hr hne h5 hb hf
  generalize cbytes r = cb at *
  generalize cpages r = cp at *
  go_enter Try.func12, Try.ntmps12
  go_wp2_with (first
    | (go_at_call 27; with_reducible refine HW.out.mono ?_; rintro e w1 ⟨lv, bv, rfl, hw⟩; have H1 := Lib.hid hw; clear hw))
  go_ret2
  exact ⟨lv, rfl, H1.out.l, H1.out.pool, H1.out.chg⟩

end Go.Proofs.Ytfdhlpdmbgjkdaa

namespace Go.Proofs.Ytfdhlpdmbgjkdaa
open Go.RowKit
set_option maxRecDepth 100000

def dropAll (A : Pages) (ps : List Int) : Pages := ps.foldl (fun A l => A.set l.toNat none) A
theorem dropAll_snoc (A : Pages) (ps : List Int) (l : Int) : dropAll A (ps ++ [l]) = (dropAll A ps).set l.toNat none := by simp [dropAll]
theorem dropAll_lookup : ∀ (ps : List Int) (A : Pages), (∀ p ∈ ps, 0 ≤ p) → ∀ l, lookup (dropAll A ps) l = if l ∈ ps then none else lookup A l
  | [], A, _, l => by simp [dropAll]
  | p :: ps, A, h, l => by
    have ih := dropAll_lookup ps (A.set p.toNat none) (fun q hq => h q (by simp [hq])) l
    have h0 := h p (by simp)
    show lookup (dropAll (A.set p.toNat none) ps) l = _
    rw [ih, lookup_set]
    by_cases h1 : l ∈ ps
    · rw [if_pos h1, if_pos (by simp [h1])]
    · rw [if_neg h1]
      by_cases h2 : l = p
      · rw [if_pos (by omega), if_pos (by simp [h2])]
      · rw [if_neg (by omega), if_neg (by simp [h1, h2])]
theorem dropAll_length (ps : List Int) (A : Pages) : (dropAll A ps).length = A.length := by
  induction ps generalizing A with
  | nil => rfl
  | cons p ps ih =>
    show (dropAll (A.set p.toNat none) ps).length = _
    rw [ih, List.length_set]

theorem pool_drop_at {w : World} {b : PoolB} {A : Pages} {f : Nat} (h : PoolIs w b A f) (l : Int) {bs : Bytes} (ha : lookup A l = some bs) :
    Calls Try.prog 26 #[ptrV b.p, intV l] w fun e w' => e = .returned (intV 0) ∧ PoolTo b w w' (A.set l.toNat none) (f + 1) := by
  obtain ⟨i, rfl, -⟩ := lookup_some ha
  rw [Int.toNat_natCast]
  exact pool_drop_yes h i ha

structure DropSt (w wr : World) (b : PoolB) (A : Pages) (f : Nat) (lv : Value) (ps : List Int) (k : Nat) : Prop where
  pool : PoolTo b w wr (dropAll A (ps.take k)) (f + k)
  l : Own wr 3 1 lv ps.length (ints ps)
  ap : ∀ x ∈ ownBlk lv, x ∉ b.set ∧ x < w.heap.size

theorem DropSt.step {w wr w2 : World} {b : PoolB} {A : Pages} {f : Nat} {lv : Value} {ps : List Int} {k : Nat} {sb : StoreB} {p : Int} (h : DropSt w wr b A f lv ps k) (g : Grew b.set (PoolB.set { b with s := sb }) w wr)
    (hk : k < ps.length) (hp : ps[k] = p) (h2 : PoolTo { b with s := sb } wr w2 ((dropAll A (ps.take k)).set p.toNat none) (f + k + 1)) : DropSt w w2 b A f lv ps (k + 1) := by
  obtain ⟨sb2, p2, g2⟩ := h2
  refine ⟨⟨sb2, ?_, g.trans g2⟩, h.l.kept g2.chg (fun x hx hm => ?_), h.ap⟩
  · rw [List.take_succ_eq_append_getElem hk, dropAll_snoc, hp]
    exact p2
  · have h1 := h.ap x hx
    rcases g.from_ x hm with h3 | h3
    · exact h1.1 h3
    · omega

set_option maxHeartbeats 1000000 in
theorem chain_drop_ok {w : World} {b : PoolB} {A : Pages} {f : Nat} (h : PoolIs w b A f) (r : List Link) (hr : Chain A r) (hne : r ≠ []) (h5 : r.length ≤ 5) (hb : (cbytes r).length ≤ 1024) (hnd : (cpages r).Nodup) (first : Int) (hf : nxt r = first) :
    Calls Try.prog 10 #[ptrV b.p, intV first] w fun e w' => e = .returned (intV 0) ∧ PoolTo b w w' (dropAll A (cpages r)) (f + (cpages r).length) := by
  have HW := Lib.hid (chain_walk_ok h r hr hne h5 hb first hf)
  have hth := hr.there
  have HO := Lib.hid h.lt
  have hcl : (cpages r).length ≤ 5 := by simpa [cpages] using h5
  clear h hr hne h5 hb hf
  generalize cbytes r = cb at *
  generalize cpages r = ps at *
  have HTH : Hid (∀ k (hk : k < ps.length), ∃ bs, lookup (dropAll A (ps.take k)) ps[k] = some bs) := Lib.hid fun k hk => by
    obtain ⟨bs, hbs⟩ := hth ps[k] (List.getElem_mem hk)
    refine ⟨bs, ?_⟩
    rw [dropAll_lookup, if_neg, hbs]
    · intro hm
      have := List.take_append_drop k ps
      rw [← this, List.nodup_append] at hnd
      have hd : ps[k] ∈ ps.drop k := by
        rw [List.drop_eq_getElem_cons hk]
        exact List.mem_cons_self
      exact hnd.2.2 _ hm _ hd rfl
    · intro p hp
      obtain ⟨bs', hb'⟩ := hth p (List.mem_of_mem_take hp)
      exact lookup_nonneg hb'
  clear hth hnd
  go_enter Try.func10, Try.ntmps10
  go_wp2_with (first
    | (go_at_call 27; with_reducible refine HW.out.mono ?_; rintro e w1 ⟨lv, bv, rfl, hw⟩; obtain ⟨la, lc, rfl, hla, hlc⟩ := hw.l.shape; have H1 := Lib.hid hw; clear hw))
  have HST : Hid (DropSt w1 w1 b A f (.slice la ps.length lc) ps 0) := Lib.hid ⟨⟨b.s, H1.out.pool, Grew.same (Chg.refl _ _) H1.out.pool.lt⟩, H1.out.l, fun x hx => ⟨fun hm => by have := H1.out.nl x hx; have := HO.out x hm; omega, H1.out.l.lt x hx⟩⟩
  go_loopw [23] (fun i wr => ∃ k : Nat, k ≤ ps.length ∧ i = .int .i64 k ∧ DropSt w1 wr b A f (.slice la ps.length lc) ps k) (fun i _ => ps.length - (intOf i).toNat)
  case atStart => exact ⟨0, Nat.zero_le _, rfl, HST.out⟩
  case round =>
    obtain ⟨k, hk, rfl, hs⟩ := hrel
    by_cases hlt : k < ps.length
    · obtain ⟨g, cap, cur, hv, -, -⟩ := hs.l.pos (by omega)
      have hcell := hs.l.cell hv hlt
      simp at hv
      obtain ⟨rfl, rfl⟩ := hv
      obtain ⟨bs, hbs⟩ := HTH.out k hlt
      obtain ⟨p, hp⟩ : ∃ p, ps[k] = p := ⟨_, rfl⟩
      rw [hp] at hbs
      have k0 : wr.cell? ⟨g, k, none⟩ = some (intV p) := by
        rw [hcell.1, ints_get, List.getElem?_eq_getElem hlt, hp]
        rfl
      have HS := Lib.hid hs
      obtain ⟨sb, p1, g1⟩ := hs.pool
      have HD : Hid (Calls Try.prog 26 #[ptrV b.p, intV p] wr fun e w' => e = .returned (intV 0) ∧ PoolTo { b with s := sb } wr w' ((dropAll A (ps.take k)).set p.toNat none) (f + k + 1)) := Lib.hid (pool_drop_at p1 p hbs)
      have HP := Lib.hid hp
      have HLT := Lib.hid hlt
      have G1 := Lib.hid g1
      have hltI : (k : Int) < (ps.length : Int) := by omega
      clear hs p1 hbs hp hcell g1
      go_wp2_with (first
        | (go_at_call 26; with_reducible refine HD.out.mono ?_; rintro e w2 ⟨rfl, h2⟩; have H2 := Lib.hid (HS.out.step G1.out HLT.out HP.out h2); clear h2))
      go_roundw
      case rel => exact ⟨k + 1, by have := HLT.out; omega, by go_num, H2.out⟩
      case measure => have := HLT.out; simp [intOf]; omega
    · obtain rfl : k = ps.length := by omega
      have HS := Lib.hid hs
      clear hs
      go_wp2_with fail
      go_ret
      obtain ⟨sb, p1, g1⟩ := HS.out.pool
      rw [List.take_length] at p1
      exact ⟨rfl, sb, p1, (Grew.same H1.out.chg HO.out).trans g1⟩

end Go.Proofs.Ytfdhlpdmbgjkdaa

namespace Go.Proofs.Ytfdhlpdmbgjkdaa
open Go.RowKit
set_option maxRecDepth 100000
attribute [local go_sem ↓] cut2_any

theorem chain_put1 {w : World} {g : Nat} {T : TypeId} (v : Bytes) (hb : Blk w g T [strV v]) (i : Nat) (hi : i * 228 ≤ v.length) (hl : v.length ≤ 60000) :
    Calls Try.prog 23 #[intV i, ptrV g] w fun e w' => e = .returned (strV (piece v i)) ∧ w = w' := by
  have c0 := hb.cell 0
  simp at c0
  clear hb
  have hi2 : (i : Int) * 228 ≤ (v.length : Int) := by omega
  have hiN : (i : Int) ≤ 60000 := by omega
  by_cases hc : (i + 1) * 228 ≤ v.length
  · have hin : InStr2 (strV v) (.int .i64 ((i : Int) * 228)) (.int .i64 (((i : Int) + 1) * 228)) := ⟨v, i * 228, (i + 1) * 228, rfl, by rw [Int.natCast_mul]; rfl, by rw [Int.natCast_mul]; rfl, by omega, hc⟩
    have hcut : cut2 (strV v) (.int .i64 ((i : Int) * 228)) (.int .i64 (((i : Int) + 1) * 228)) = strV (piece v i) := by
      rw [cut2_str, show (((i : Int) + 1) * 228).toNat = i * 228 + 228 by omega, show ((i : Int) * 228).toNat = i * 228 by omega]
      unfold piece
      rw [List.drop_take, show i * 228 + 228 - i * 228 = 228 by omega]
    have hc2 : ((i : Int) + 1) * 228 ≤ (v.length : Int) := by omega
    have HV := Lib.hid hcut
    clear hc hcut
    go_enter Try.func23, Try.ntmps23
    go_wp2_with fail
    go_ret
    exact ⟨by rw [← HV.out]; rfl, rfl⟩
  · have hin : InStr2 (strV v) (.int .i64 ((i : Int) * 228)) (.int .i64 (v.length : Int)) := ⟨v, i * 228, v.length, rfl, by rw [Int.natCast_mul]; rfl, rfl, hi, Nat.le_refl _⟩
    have hcut : cut2 (strV v) (.int .i64 ((i : Int) * 228)) (.int .i64 (v.length : Int)) = strV (piece v i) := by
      rw [cut2_str, show ((i : Int) * 228).toNat = i * 228 by omega, Int.toNat_natCast, List.take_length]
      unfold piece
      rw [List.take_of_length_le (by simp; omega)]
    have hc2 : (v.length : Int) < ((i : Int) + 1) * 228 := by omega
    have HV := Lib.hid hcut
    clear hc hcut
    go_enter Try.func23, Try.ntmps23
    go_wp2_with fail
    go_ret
    exact ⟨by rw [← HV.out]; rfl, rfl⟩

theorem chain_put_big {w : World} (p : Nat) (v : Bytes) (h1 : 1024 < v.length) (h2 : v.length ≤ 60000) :
    Calls Try.prog 9 #[ptrV p, strV v] w fun e w' => e = .returned (.tuple #[intV 0, intV 4]) ∧ Chg [] w w' := by
  go_enter Try.func9, Try.ntmps9
  go_wp2_with fail
  go_ret2
  exact ⟨rfl, (Chg.refl _ _).alloc _⟩

/-- What lies in memory while chain.Put makes its pages. -/
structure ChPut (w wr : World) (b : PoolB) (sb : StoreB) (g : Nat) (v : Bytes) (A : Pages) (f : Nat) (mv : Value) (ps : List Int) : Prop where
  pool : PoolIs wr { b with s := sb } A f
  grew : Grew b.set (PoolB.set { b with s := sb }) w wr
  l : Own wr 3 1 mv ps.length (ints ps)
  box : Blk wr g 9 [strV v]
  nl : ∀ x ∈ ownBlk mv, w.heap.size ≤ x
  ap : ∀ x ∈ ownBlk mv, x ∉ PoolB.set { b with s := sb }
  gn : g ∉ b.set ∧ g < w.heap.size

theorem ChPut.gset {w wr : World} {b : PoolB} {sb : StoreB} {g : Nat} {v : Bytes} {A : Pages} {f : Nat} {mv : Value} {ps : List Int} (h : ChPut w wr b sb g v A f mv ps) : g ∉ PoolB.set { b with s := sb } := fun hm => by
  rcases h.grew.from_ g hm with h1 | h1
  · exact h.gn.1 h1
  · have := h.gn.2; omega
theorem ChPut.on0 {w wr w2 : World} {b : PoolB} {sb : StoreB} {g : Nat} {v : Bytes} {A : Pages} {f : Nat} {mv : Value} {ps : List Int} (h : ChPut w wr b sb g v A f mv ps) (hc : Chg [] wr w2) : ChPut w w2 b sb g v A f mv ps :=
  ⟨h.pool.kept0 hc, ⟨h.grew.chg.trans0 hc, fun k hk => Nat.lt_of_lt_of_le (h.grew.lt k hk) hc.size, h.grew.from_⟩, h.l.kept hc (by simp), h.box.kept hc (by simp), h.nl, h.ap, h.gn⟩
theorem ChPut.onPool {w wr w2 : World} {b : PoolB} {sb : StoreB} {g : Nat} {v : Bytes} {A A2 : Pages} {f f2 : Nat} {mv : Value} {ps : List Int} (h : ChPut w wr b sb g v A f mv ps) (h2 : PoolTo { b with s := sb } wr w2 A2 f2) :
    ∃ sb2, ChPut w w2 b sb2 g v A2 f2 mv ps := by
  obtain ⟨sb2, p2, g2⟩ := h2
  refine ⟨sb2, p2, h.grew.trans g2, h.l.kept g2.chg (fun x hx hm => h.ap x hx hm), h.box.kept g2.chg h.gset, h.nl, fun x hx hm => ?_, h.gn⟩
  rcases g2.from_ x hm with h3 | h3
  · exact h.ap x hx h3
  · have := h.l.lt x hx; omega
theorem ChPut.onList {w wr w2 : World} {b : PoolB} {sb : StoreB} {g : Nat} {v : Bytes} {A : Pages} {f : Nat} {mv mv' : Value} {ps : List Int} {l : Int} (h : ChPut w wr b sb g v A f mv ps)
    (hown : Own w2 3 1 mv' (ps.length + 1) (ints ps ++ [intV l])) (hc : Chg (ownBlk mv) wr w2) (hg : ∀ k ∈ ownBlk mv', k ∈ ownBlk mv ∨ wr.heap.size ≤ k) : ChPut w w2 b sb g v A f mv' (ps ++ [l]) := by
  have hlt := h.pool.lt
  have hs := h.grew.chg.size
  refine ⟨h.pool.kept hc fun k hk hm => h.ap k hm hk, ⟨h.grew.chg.trans hc fun x hx => .inr (h.nl x hx), fun k hk => Nat.lt_of_lt_of_le (h.grew.lt k hk) hc.size, h.grew.from_⟩, ?_, h.box.kept hc fun hm => by have := h.nl _ hm; have := h.gn.2; omega, fun x hx => ?_, fun x hx hm => ?_, h.gn⟩
  · rw [List.length_append, show ints (ps ++ [l]) = ints ps ++ [intV l] by simp [ints]]
    exact hown
  · rcases hg x hx with h1 | h1
    · exact h.nl x h1
    · omega
  · rcases hg x hx with h1 | h1
    · exact h.ap x h1 hm
    · have := hlt x hm; omega
theorem ChPut.start {w : World} {b : PoolB} {A : Pages} {f : Nat} (h : PoolIs w b A f) (v : Bytes) : ChPut (w.alloc (.cells #[strV v] 9)) (w.alloc (.cells #[strV v] 9)) b b.s w.heap.size v A f (.slice none 0 0) [] := by
  have h0 := h.kept0 ((Chg.refl [] w).alloc (.cells #[strV v] 9))
  refine ⟨h0, Grew.same (Chg.refl _ _) h0.lt, Own.nil _ _ _, Blk.new w _ _, by simp [ownBlk], by simp [ownBlk], fun hm => absurd (h.lt _ hm) (Nat.lt_irrefl _), by simp⟩

end Go.Proofs.Ytfdhlpdmbgjkdaa

namespace Go.Proofs.Ytfdhlpdmbgjkdaa
open Go.RowKit
set_option maxRecDepth 100000
attribute [local go_sem ↓] add_str9
attribute [local go_sem] strOf_strV

set_option maxHeartbeats 2000000 in
theorem chain_put_ok {w : World} {b : PoolB} {A : Pages} {f : Nat} (h : PoolIs w b A f) (v : Bytes) (hv : v.length ≤ 1024) (hA : A.length ≤ 500) (hf : chainNeed v.length ≤ f) :
    Calls Try.prog 9 #[ptrV b.p, strV v] w fun e w' => e = .returned (.tuple #[intV (nxt (laid v (chainNeed v.length) A (chainNeed v.length)).2), intV 0]) ∧
      PoolTo b w w' (laid v (chainNeed v.length) A (chainNeed v.length)).1 (f - chainNeed v.length) := by
  have HS := Lib.hid (ChPut.start h v)
  have hneed := fun (wr : World) => chain_need v.length wr (by omega)
  have hk1 : 1 ≤ chainNeed v.length ∧ chainNeed v.length ≤ 5 ∧ (chainNeed v.length - 1) * 228 ≤ v.length := by unfold chainNeed; omega
  have hlo := fun j (hj : j ≤ 5) => laid_ok v (chainNeed v.length) A j (by omega)
  have HO := Lib.hid h.lt
  generalize chainNeed v.length = k at *
  obtain ⟨hk1, hk5, hkv⟩ := hk1
  have HN := Lib.hid hneed
  have HLO := Lib.hid hlo
  clear h hneed hlo
  go_enter Try.func9, Try.ntmps9
  have hmf : ∀ (fn : Fn) (first cap : Array Value) (w : World), (Instr.makeFunc fn first cap).run Try.prog w = .ok (.func fn first cap) w := fun _ _ _ _ => rfl
  go_wp2_with (first
    | (go_at_call 13; with_reducible refine (HN.out _).mono ?_; rintro e w1 ⟨rfl, rfl⟩))
  go_loopw [7, 8, 9] (fun mv nx i wr => ∃ (j : Nat) (x y : Int) (sb : StoreB), j ≤ k ∧ x = nxt (laid v k A j).2 ∧ nx = intV x ∧ y = (k : Int) - 1 - j ∧ i = .int .i64 y ∧
    ChPut (w.alloc (.cells #[strV v] 9)) wr b sb w.heap.size v (laid v k A j).1 (f - j) mv (cpages (laid v k A j).2).reverse) (fun _ _ i _ => (intOf i + 1).toNat)
  case atStart => exact ⟨0, -1, (k : Int) - 1, b.s, Nat.zero_le _, rfl, rfl, by omega, rfl, HS.out⟩
  case round =>
    obtain ⟨j, x, y, sb, hj, hx, rfl, hy, rfl, hs⟩ := hrel
    by_cases hlt : j < k
    · obtain ⟨i, hi⟩ : ∃ i : Nat, i = k - 1 - j := ⟨_, rfl⟩
      obtain rfl : y = (i : Int) := by omega
      have hlo := HLO.out j (by omega)
      have hnx := hlo.chain.nxt_bd
      have hlen := hlo.len
      have hstep : laid v k A (j + 1) = (addPage (laid v k A j).1 (pad (linkBytes x (piece v i))), (((holeOf (laid v k A j).1 : Nat) : Int), piece v i) :: (laid v k A j).2) := by
        rw [hx, hi]
        rfl
      rw [← hx] at hnx
      have hclo := chain_put1 v hs.box i (by have : i * 228 ≤ (k - 1) * 228 := Nat.mul_le_mul_right _ (by omega)
                                             omega) (by omega)
      have hpl := piece_length v i
      have hhole := holeOf_le (laid v k A j).1
      have hnew := fun (wr : World) (sb : StoreB) (hp : PoolIs wr { b with s := sb } (laid v k A j).1 (f - j)) => (show Calls Try.prog 24 #[ptrV b.p, strV (two (x + 1) ++ (two (piece v i).length ++ piece v i))] wr fun e w' => e = .returned (.tuple #[intV (holeOf (laid v k A j).1), intV 0]) ∧
          PoolTo { b with s := sb } wr w' (addPage (laid v k A j).1 (pad (linkBytes x (piece v i)))) (f - (j + 1)) by
        have e1 : f - j = (f - (j + 1)) + 1 := by omega
        rw [e1] at hp
        have := pool_new_ok hp (linkBytes x (piece v i)) (by simp [linkBytes, two]; omega) (by omega)
        exact this)
      have hps : (cpages ((((holeOf (laid v k A j).1 : Nat) : Int), piece v i) :: (laid v k A j).2)).reverse = (cpages (laid v k A j).2).reverse ++ [((holeOf (laid v k A j).1 : Nat) : Int)] := by simp [cpages]
      have hpsl : (cpages (laid v k A j).2).reverse.length ≤ 5 := by
        rw [List.length_reverse]
        have := hlo.many
        simp only [cpages, List.length_map]
        omega
      obtain ⟨hlx, hhx⟩ : ∃ h, h = holeOf (laid v k A j).1 := ⟨_, rfl⟩
      rw [← hhx] at hstep hnew hps hhole
      clear hhx
      generalize laid v k A j = s at *
      generalize piece v i = pc at *
      generalize (cpages s.2).reverse = ps at *
      have hib : (i : Int) ≤ 4 := by omega
      have hib0 : (0 : Int) ≤ (i : Int) := by omega
      have HST := Lib.hid hstep
      have HCL := Lib.hid hclo
      have HNW := Lib.hid hnew
      have HPS := Lib.hid hps
      have HJ := Lib.hid hlt
      have HP := Lib.hid hs
      have HI := Lib.hid hi
      have i1 : IsStr (strV (two (x + 1))) := IsStr.mk' (by simp [two])
      have i2 : IsStr (strV (two pc.length)) := IsStr.mk' (by simp [two])
      have i3 : IsStr (strV (two (x + 1) ++ two pc.length)) := IsStr.mk' (by simp [two])
      have i4 : IsStr (strV pc) := IsStr.mk' (by omega)
      obtain ⟨ma, mc, rfl, hma, hmc⟩ := hs.l.shape
      clear hlo hstep hclo hnew hps hlt hs hx hi hy hlen hhole
      go_wp2_with (first
        | (go_at_call 23; with_reducible refine HCL.out.mono ?_; rintro e w1 ⟨rfl, rfl⟩)
        | (go_at_call 25; with_reducible refine (chain_two _ _ (by omega) (by omega)).mono ?_; rintro e w1 ⟨rfl, hc⟩; have HP := Lib.hid (HP.out.on0 hc); clear hc)
        | (go_at_call 24; with_reducible refine (HNW.out _ _ HP.out.pool).mono ?_; rintro e w1 ⟨rfl, hp⟩; obtain ⟨sb2, hp2⟩ := HP.out.onPool hp; have HQ := Lib.hid hp2; clear hp hp2)
        | (refine wpList_append rfl (.tmp 61) (.tmp 63) 34 34 rfl 3 1 8 (intV 0) Try.underlying34 info_int rfl (by omega) (.slice ma ps.length mc) ps.length 1 (ints ps) [intV hlx] rfl (by exact (HQ.out.on0 ((Chg.refl [] _).alloc _)).l) (by exact src_new' Try.underlying34 _ 3 [intV hlx] _ 1 1 rfl rfl (by simp [Value.oneCell'])) (by omega) (by unfold maxLen; omega) ?_; intro ad c w2 hown hc2 hg2 hcm hnc
           have HZ := Lib.hid ((HQ.out.on0 ((Chg.refl [] _).alloc _)).onList hown hc2 hg2); clear hown hc2 hg2))
      go_roundw
      case rel =>
        refine ⟨j + 1, hlx, (i : Int) - 1, sb2, by have := HJ.out; omega, by rw [HST.out]; rfl, rfl, by have := HJ.out; have := HI.out; omega, by go_num, ?_⟩
        rw [HST.out]
        dsimp only
        rw [HPS.out]
        exact HZ.out
      case measure => simp [intOf]
    · obtain rfl : j = k := by omega
      obtain rfl : y = -1 := by omega
      have HX := Lib.hid hs
      have HXX := Lib.hid hx
      clear hs hx
      go_wp2_with fail
      go_ret2
      refine ⟨by rw [← HXX.out]; rfl, sb, HX.out.pool, (Grew.same ((Chg.refl _ _).alloc _) HO.out).trans HX.out.grew⟩

end Go.Proofs.Ytfdhlpdmbgjkdaa
