/- A part of the walks of the program's functions, each a contract that its caller uses; no condition but what each theorem names. The walk of page.Put, the rest. The walk of root.Put at a root without parts. The walks of slices.Contains of ints, and of root's right at every root. The walk of root.Put at every root. -/
import Derived.Test.YtjbpdgknhbnfgaaGreatM3
import Derived.Deep.LoopGhost
import Derived.Deep.RegionHeld3
import Derived.Laws.CopyRow
import Derived.Laws.IdiomCopy

namespace Go.Proofs.YtjbpdgknhbnfgaaGreat
open Go.RowKit

def pageCells (p : Page) : List Value := [intV p.id, intV p.epoch, intV p.kind, strV p.payload]

/-- Where page.Put stands: its page lies in block P, its variable b in block g, holding xs. -/
structure PutSt (w0 w : World) (P g : Nat) (p : Page) (xs : Bytes) : Prop where
  page : Blk w P 55 (pageCells p)
  b : ∃ v, Blk w g 141 [v] ∧ Own w 5 1 v xs.length (byts xs) ∧ g ∉ ownBlk v ∧ P ∉ ownBlk v ∧ ∀ k ∈ ownBlk v, w0.heap.size ≤ k
  ne : P ≠ g
  newg : w0.heap.size ≤ g
  chg : Chg [] w0 w

theorem PutSt.on {w0 w w' : World} {P g : Nat} {p : Page} {xs : Bytes} (h : PutSt w0 w P g p xs) (hc : Chg [] w w') : PutSt w0 w' P g p xs := by
  obtain ⟨v, h1, h2, h3, h4, h5⟩ := h.b
  exact ⟨h.page.kept hc (by simp), ⟨v, h1.kept hc (by simp), h2.kept hc (fun _ _ h => by cases h), h3, h4, h5⟩, h.ne, h.newg, h.chg.trans0 hc⟩
theorem PutSt.cells {w0 w : World} {P g : Nat} {p : Page} {xs : Bytes} (h : PutSt w0 w P g p xs) :
    w.cell? ⟨P, 0, none⟩ = some (intV p.id) ∧ w.cell? ⟨P, 1, none⟩ = some (intV p.epoch) ∧ w.cell? ⟨P, 2, none⟩ = some (intV p.kind) ∧ w.cell? ⟨P, 3, none⟩ = some (strV p.payload) :=
  ⟨h.page.cell 0, h.page.cell 1, h.page.cell 2, h.page.cell 3⟩

theorem page_put1' {w0 w : World} {P g : Nat} {p : Page} {xs : Bytes} (h : PutSt w0 w P g p xs) (s : Bytes) (hn : xs.length + s.length ≤ 60000) :
    Calls Tryz.prog 213 #[strV s, ptrV g] w fun e w' => e = .returned (.tuple #[]) ∧ PutSt w0 w' P g p (xs ++ s) := by
  obtain ⟨v, h1, h2, h3, h4, h5⟩ := h.b
  refine (page_put1 g v xs.length xs s w h1 h2 h3 hn).mono ?_
  rintro e w' ⟨rfl, v', k1, k2, k3, k4, k5⟩
  have hP : P ∉ ownBlk v' := fun hm => (k5 P hm).elim h4 (fun hl => absurd h.page.lt (by omega))
  have hge := h.chg.size
  refine ⟨rfl, ⟨h.page.kept k4 (by simp [h.ne, h4]), ⟨v', k1, by rw [List.length_append]; exact k2, k3, hP, ?_⟩, h.ne, h.newg, ?_⟩⟩
  · intro k hk
    rcases k5 k hk with hm | hm
    · exact h5 k hm
    · omega
  · refine h.chg.trans k4 ?_
    intro k hk
    simp at hk
    rcases hk with rfl | hk
    · exact .inr h.newg
    · exact .inr (h5 k hk)

theorem conv_int_u64 {ρ : Operand → Value} {w : World} {x : Operand} {dst type pos after guard} (h : IsI64 (ρ x)) :
    (execOp ρ { dst := dst, op := .convert 3 173 x, type := type, pos := pos, after := after, guard := guard }).run Tryz.prog w = .ok (.value (u64V (BitVec.ofInt 64 (i64Of (ρ x))))) w :=
  exec_conv_i64_u64 Tryz.underlying3 Tryz.underlying173 h
attribute [local go_sem ↓] conv_int_u64 cutLo4
attribute [local go_sem] u64Of_u64V isU64_u64V cutLo_str

theorem be_drop4 (n : Nat) : (be 8 n).drop 4 = be 4 n := by
  apply List.ext_getElem?
  intro i
  rw [List.getElem?_drop]
  by_cases hi : i < 4
  · rw [be_get 8 n (4 + i) (by omega), be_get 4 n i hi]
    rw [show 8 - 1 - (4 + i) = 4 - 1 - i by omega]
  · rw [List.getElem?_eq_none (by rw [be_length]; omega), List.getElem?_eq_none (by rw [be_length]; omega)]

theorem PutSt.mk2 {w0 w w2 : World} {P g : Nat} {p : Page} {ys : Bytes} {v v' : Value} (hpage : Blk w P 55 (pageCells p)) (hb : Blk w g 141 [v]) (hg : g ∉ ownBlk v) (hP : P ∉ ownBlk v)
    (hv : ∀ k ∈ ownBlk v, w0.heap.size ≤ k) (ne : P ≠ g) (newg : w0.heap.size ≤ g) (chg : Chg [] w0 w) (hown2 : Own w2 5 1 v' ys.length (byts ys)) (hc2 : Chg (ownBlk v) w w2)
    (hge2 : ∀ k ∈ ownBlk v', k ∈ ownBlk v ∨ w.heap.size ≤ k) : PutSt w0 (w2.setCell ⟨g, 0, none⟩ v') P g p ys := by
  have hg2 : g ∉ ownBlk v' := fun hm => (hge2 g hm).elim hg (fun h => absurd hb.lt (by omega))
  have hP2 : P ∉ ownBlk v' := fun hm => (hge2 P hm).elim hP (fun h => absurd hpage.lt (by omega))
  have hge := chg.size
  refine ⟨(hpage.kept hc2 hP).other _ _ ne, ⟨v', by simpa using (hb.kept hc2 hg).set 0 v', hown2.other _ _ hg2, hg2, hP2, ?_⟩, ne, newg, ?_⟩
  · intro k hk
    rcases hge2 k hk with h | h
    · exact hv k h
    · omega
  · exact (chg.trans hc2 (fun k hk => .inr (hv k hk))).setCell _ _ (.inr newg)

def kind8 (n : Int) : Bytes := be 8 (BitVec.ofInt 64 n).toNat
theorem kind8_length (n : Int) : (kind8 n).length = 8 := be_length _ _
theorem kind8_drop (n : Int) (h0 : 0 ≤ n) (h1 : n ≤ 2147483647) : (kind8 n).drop 4 = be 4 n.toNat := by
  unfold kind8
  rw [be_drop4, BitVec.toNat_ofInt]
  congr 1
  omega
theorem pack_kind (n : Int) (w : World) :
    Calls Tryz.prog 214 #[u64V (BitVec.ofInt 64 n)] w fun e w' => e = .returned (strV (kind8 n)) ∧ Chg [] w w' := pack_u _ w
theorem packI_length (n : Int) : (packI n).length = 8 := be_length _ _

set_option maxHeartbeats 1000000 in
set_option maxRecDepth 100000 in
theorem page_put_ok (p : Page) (w : World) (hr : p.right = true) (hl : p.payload.length ≤ 232) :
    Calls Tryz.prog 203 #[.agg #[intV p.id, intV p.epoch, intV p.kind, strV p.payload]] w fun e w' => e = .returned (.tuple #[strV p.bytes, intV 0]) ∧ Chg [] w w' := by
  have hr' : Page.right ⟨p.id, p.epoch, p.kind, p.payload⟩ = true := hr
  have hmf : ∀ (fn : Fn) (first cap : Array Value) (w : World), (Instr.makeFunc fn first cap).run Tryz.prog w = .ok (.func fn first cap) w := fun _ _ _ _ => rfl
  have hp0 : Blk (w.alloc (.cells #[intV p.id, intV p.epoch, intV p.kind, strV p.payload] 55)) w.heap.size 55 (pageCells p) := Blk.new w _ (pageCells p)
  have HP0 := Lib.hid hp0
  have hk : p.kind.toNat < 4294967296 ∧ (0 : Int) ≤ p.kind ∧ p.kind ≤ 2147483647 := by
    simp [Page.right] at hr
    omega
  have HK := Lib.hid hk
  clear hp0 hr hk
  have hl' : (p.payload.length : Int) ≤ 232 := by omega
  obtain ⟨body, hbd⟩ : ∃ body, body = [] ++ packI p.id ++ packI p.epoch ++ be 4 p.kind.toNat ++ p.payload := ⟨_, rfl⟩
  have hby : p.bytes = crcLay (body ++ List.replicate (232 - p.payload.length) 0) := by subst hbd; simp [Page.bytes]
  have hbody : body.length = 20 + p.payload.length := by subst hbd; simp [packI_length, be_length]; omega
  rw [hby]
  obtain ⟨m, hm⟩ : ∃ m, m = 232 - p.payload.length := ⟨_, rfl⟩
  rw [← hm]
  have hm0 : m ≤ 232 := by omega
  have hL : 252 = body.length + m := by omega
  have HLL := Lib.hid hL
  have HBD := Lib.hid hbd
  clear hm hL hbody hby hbd
  go_enter Tryz.func203, Tryz.ntmps203
  go_wp2_with fail
  refine (page_right _ _ _ _ _).mono ?_
  rintro e w1 ⟨rfl, hc1⟩
  have HP1 := Lib.hid (HP0.out.kept hc1 (by simp))
  have k3 := HP1.out.cell 3
  simp [pageCells] at k3
  have st0 : PutSt w (w1.alloc (.cells #[.slice none 0 0] 141)) w.heap.size w1.heap.size p [] :=
    ⟨HP1.out.alloc _, ⟨.slice none 0 0, Blk.new w1 _ [.slice none 0 0], Own.nil _ _ _, by simp [ownBlk], by simp [ownBlk], by simp [ownBlk]⟩, by have := HP1.out.lt; omega,
      Nat.le_of_lt HP1.out.lt, (((Chg.refl _ _).alloc _).trans0 hc1).alloc _⟩
  have S0 := Lib.hid st0
  have a0 := st0.cells.1
  clear st0
  go_wp2_with fail
  refine (pack_i _ _).mono ?_
  rintro e w2 ⟨rfl, hc2⟩
  have S2 := Lib.hid (S0.out.on hc2)
  go_wp2_with fail
  refine (page_put1' S2.out (packI p.id) (by simp [packI_length])).mono ?_
  rintro e w3 ⟨rfl, st3⟩
  have a1 := st3.cells.2.1
  have S3 := Lib.hid st3
  clear st3
  go_wp2_with fail
  refine (pack_i _ _).mono ?_
  rintro e w4 ⟨rfl, hc4⟩
  have S4 := Lib.hid (S3.out.on hc4)
  go_wp2_with fail
  refine (page_put1' S4.out (packI p.epoch) (by simp [packI_length])).mono ?_
  rintro e w5 ⟨rfl, st5⟩
  have a2 := st5.cells.2.2.1
  have S5 := Lib.hid st5
  clear st5
  have j1 : IsI64 (intV p.kind) := ⟨_, rfl⟩
  have j2 : i64Of (intV p.kind) = p.kind := rfl
  have j3 : InStr (strV (kind8 p.kind)) (.int .i64 4) := InStr.mk' (n := 4) (by rw [kind8_length]; omega)
  have J4 := Lib.hid (kind8_drop p.kind HK.out.2.1 HK.out.2.2)
  go_wp2_with fail
  refine (pack_kind _ _).mono ?_
  rintro e w6 ⟨rfl, hc6⟩
  have S6 := Lib.hid (S5.out.on hc6)
  go_wp2_with fail
  rw [J4.out]
  refine (page_put1' S6.out (be 4 p.kind.toNat) (by simp [packI_length, be_length])).mono ?_
  rintro e w7 ⟨rfl, st7⟩
  have a3 := st7.cells.2.2.2
  have S7 := Lib.hid st7
  clear st7
  go_wp2_with fail
  refine (page_put1' S7.out p.payload (by simp [packI_length, be_length]; omega)).mono ?_
  rintro e w8 ⟨rfl, st8⟩
  have S8 := Lib.hid st8
  clear st8 a3 a2 a1 a0 k3 j1 j2 j3
  have S9 : Hid (PutSt w w8 w.heap.size w1.heap.size p body) := by
    have := S8.out
    rw [← HBD.out] at this
    exact Lib.hid this
  clear S8 S7 S6 S5 S4 S3 S2 S0 J4 HK hr' hmf HP1 HP0
  go_wp2_with fail
  generalize w.heap.size = P at *
  generalize w1.heap.size = g at *
  go_loopg [] m (fun k wr => k ≤ m ∧ PutSt w wr P g p (body ++ List.replicate (m - k) 0))
  case atStart => exact ⟨Nat.le_refl _, by simpa using S9.out⟩
  case round =>
    obtain ⟨hk, st⟩ := hrel
    have hlen : (body ++ List.replicate (m - gk) (0 : UInt8)).length = 252 - gk := by have := HLL.out; simp; omega
    obtain ⟨v, hb, ho, hg, hP, hv⟩ := st.b
    rw [hlen] at ho
    obtain ⟨ad, c, rfl, hnc, hcm⟩ := ho.shape
    have b0 := hb.cell 0
    have f0 := hb.free 0
    simp at b0
    have HO := Lib.hid ho
    have HB := Lib.hid hb
    have ST := Lib.hid st
    have HG := Lib.hid hg
    have HP := Lib.hid hP
    have HV := Lib.hid hv
    have HLN := Lib.hid hlen
    have glt := hb.lt
    clear ho hb st hg hP hv hlen
    by_cases h0 : 0 < gk
    · have hlt : ((252 - gk : Nat) : Int) < 252 := by omega
      have hlt' : 252 - gk < 252 := by omega
      have b1 : (wr.alloc (.cells #[.int .u8 0] 5)).cell? ⟨g, 0, none⟩ = some (.slice ad (252 - gk) c) := (HB.out.alloc _).cell 0
      go_wp2_with (refine wpList_append rfl (.tmp 40) (.tmp 41) 141 141 rfl 5 1 1 (bytV 0) Tryz.underlying141 info_u8 rfl (by omega) (.slice ad (252 - gk) c) (252 - gk) 1 _ _ rfl (HO.out.alloc _) (src_one Tryz.underlying141 wr (.int .u8 0) rfl 5) (by omega) (by unfold maxLen; omega) ?_; intro ad' c' w2 hown2 hc2 hge2 hcm2 hkc2; have hb2 := (HB.out.alloc _).kept hc2 HG.out; have f2 := hb2.free 0; have h2 := hb2.cell 0; simp at h2)
      have hys : (body ++ List.replicate (m - (gk - 1)) (0 : UInt8)) = (body ++ List.replicate (m - gk) 0) ++ [0] := by
        rw [show m - (gk - 1) = (m - gk) + 1 by omega, List.replicate_succ', List.append_assoc]
      have hysl : (body ++ List.replicate (m - (gk - 1)) (0 : UInt8)).length = 252 - gk + 1 := by rw [hys, List.length_append, HLN.out]; rfl
      have hown3 : Own w2 5 1 (.slice ad' (252 - gk + 1) c') (body ++ List.replicate (m - (gk - 1)) (0 : UInt8)).length (byts (body ++ List.replicate (m - (gk - 1)) (0 : UInt8))) := by
        rw [hysl, hys, show byts ((body ++ List.replicate (m - gk) (0 : UInt8)) ++ [0]) = byts (body ++ List.replicate (m - gk) (0 : UInt8)) ++ [Value.int .u8 0] from by unfold byts; rw [List.map_append]; rfl]
        exact hown2
      have hfin := PutSt.mk2 (ST.out.page.alloc _) (HB.out.alloc _) HG.out HP.out HV.out ST.out.ne ST.out.newg (ST.out.chg.alloc _) hown3 hc2 hge2
      clear hys hysl hown3
      go_roundg (gk - 1)
      case measure => omega
      case rel => exact ⟨by omega, hfin⟩
    · obtain rfl : gk = 0 := by omega
      have hfull : (body ++ List.replicate m (0 : UInt8)).length = 252 := HLN.out
      have HF := Lib.hid hfull
      clear hfull
      go_wp2_with (first
        | (refine wpList_own_str rfl (.tmp 43) 141 9 5 rfl Tryz.underlying141 Tryz.underlying5 Tryz.underlying9 _ (body ++ List.replicate m 0) 5 rfl (by rw [HF.out]; exact HO.out) ?_)
        | (go_at_call 159; refine (crc_lay _ _ (by rw [HF.out]; omega) (by rw [HF.out]; omega)).mono ?_; rintro e w9 ⟨rfl, hc9⟩))
      go_ret2
      exact ⟨rfl, ST.out.chg.trans0 hc9⟩

end Go.Proofs.YtjbpdgknhbnfgaaGreat

namespace Go.Proofs.YtjbpdgknhbnfgaaGreat
open Go.RowKit

theorem own_new_not {v v0 : Value} {n b : Nat} (h : ∀ k ∈ ownBlk v, k ∈ ownBlk v0 ∨ n ≤ k) (h0 : b ∉ ownBlk v0) (hb : b < n) : b ∉ ownBlk v := by
  intro hk
  rcases h b hk with h1 | h1
  · exact h0 h1
  · omega

/-- the state while root.Put fills its body with zeros -/
structure ZSt (w w1 wr : World) (v : Value) (n : Nat) (ep : Int) : Prop where
  own : Own wr 5 1 v n (byts (List.replicate n 0))
  chg : Chg [] w wr
  new : ∀ k ∈ ownBlk v, w1.heap.size ≤ k
  blk : Blk wr w.heap.size 125 [intV ep, intV 0, .slice none 0 0]
  size : w1.heap.size ≤ wr.heap.size
  lt : w.heap.size < w1.heap.size

theorem ZSt.on {w w1 wr w2 : World} {v : Value} {n : Nat} {ep : Int} (h : ZSt w w1 wr v n ep) (hc : Chg [] wr w2) : ZSt w w1 w2 v n ep :=
  ⟨h.own.kept hc (by simp), h.chg.trans0 hc, h.new, h.blk.kept hc (by simp), Nat.le_trans h.size hc.size, h.lt⟩

theorem ZSt.step {w w1 wr w2 : World} {v v' : Value} {n m : Nat} {ep : Int} (h : ZSt w w1 wr v n ep) (hc : Chg (ownBlk v) wr w2)
    (ho : Own w2 5 1 v' m (byts (List.replicate m 0))) (hn : ∀ k ∈ ownBlk v', k ∈ ownBlk v ∨ wr.heap.size ≤ k) : ZSt w w1 w2 v' m ep :=
  ⟨ho, h.chg.trans hc (fun k hk => .inr (by have := h.new k hk; have := h.lt; omega)), fun k hk => by
      rcases hn k hk with h1 | h1
      · exact h.new k h1
      · have := h.size; omega,
    h.blk.kept hc (fun hk => by have := h.new _ hk; have := h.lt; omega), Nat.le_trans h.size hc.size, h.lt⟩

theorem zeros_two (n : Nat) : List.replicate n (0 : UInt8) ++ two 0 = List.replicate (n + 2) 0 := by
  have h : two 0 = List.replicate 2 0 := by decide
  rw [h, List.replicate_append_replicate]

theorem root_two_z {w w1 wr : World} {v : Value} {n : Nat} {ep : Int} (h : ZSt w w1 wr v n ep) (hn : n ≤ 50) :
    Calls Tryz.prog 158 #[v, intV 0] wr fun e w' => ∃ v', e = .returned v' ∧ ZSt w w1 w' v' (n + 2) ep := by
  have ho := h.own
  have h1 : Own wr 5 1 v (List.replicate n (0 : UInt8)).length (byts (List.replicate n 0)) := by simpa using ho
  refine (root_two h1 0 (by omega) (by omega) (by simp; omega)).mono ?_
  rintro e w' ⟨v', rfl, ho', hc, hg⟩
  rw [zeros_two, List.length_replicate] at ho'
  exact ⟨v', rfl, h.step hc ho' hg⟩

theorem add_str9 {ρ : Operand → Value} {w : World} {x y : Operand} {dst t t' type pos after guard} (h1 : IsStr (ρ x)) (h2 : IsStr (ρ y)) :
    (execOp ρ { dst := dst, op := .binOp .add t x y t', type := type, pos := pos, after := after, guard := guard }).run Tryz.prog w = .ok (.value (strV (strOf (ρ x) ++ strOf (ρ y)))) w :=
  exec_add_str h1 h2

theorem copy_nil (a : Addr) (w : World) : (Builtin.copy_ #[52, 52] 3 #[.slice (some a) 5 5, .slice none 0 0]).run Tryz.prog w = .ok (.int .i64 0) w := by
  kernel_rfl
attribute [local go_sem ↓] copy_nil add_str9
attribute [local go_sem] strOf_strV

theorem idx5 : ∀ (j : Nat) (_ : j < 5) (w : World), (Instr.index 185 (.agg #[.int .i64 0, .int .i64 0, .int .i64 0, .int .i64 0, .int .i64 0]) (.int .i64 (j : Int))).run Tryz.prog w = .ok (intV 0) w
  | 0, _, w => by kernel_rfl
  | 1, _, w => by kernel_rfl
  | 2, _, w => by kernel_rfl
  | 3, _, w => by kernel_rfl
  | 4, _, w => by kernel_rfl
  | _ + 5, h, _ => absurd h (by omega)

set_option maxHeartbeats 2000000 in
set_option maxRecDepth 100000 in
theorem root_put_empty (ep : Int) (w : World) (h0 : 1 ≤ ep) (h1 : ep ≤ 1099511627776) :
    Calls Tryz.prog 97 #[.agg #[intV ep, intV 0, .slice none 0 0]] w fun e w' => e = .returned (.tuple #[strV (Root.bytes ⟨ep, 0, []⟩), intV 0]) ∧ Chg [] w w' := by
  have hB0 : Blk (w.alloc (.cells #[intV ep, intV 0, .slice none 0 0] 125)) w.heap.size 125 [intV ep, intV 0, .slice none 0 0] := Blk.new w _ _
  have HB0 := Lib.hid hB0
  clear hB0
  have hbody : Root.body ⟨ep, 0, []⟩ = List.replicate 44 0 := by
    show two 0 ++ two ((0 : Nat) : Int) ++ twos ([] ++ List.replicate (5 - 0) 0) ++ List.replicate 30 0 = _
    decide
  have hby : Root.bytes ⟨ep, 0, []⟩ = (packI ep ++ crcLay (List.replicate 44 0)) ++ packI ep := by
    rw [← hbody]
    rfl
  rw [hby]
  clear hby hbody
  obtain ⟨cl, hcl⟩ : ∃ cl, cl = crcLay (List.replicate 44 0) := ⟨_, rfl⟩
  rw [← hcl]
  have HCL := Lib.hid hcl
  clear hcl
  go_enter Tryz.func97, Tryz.ntmps97
  go_wp2_with fail
  refine (root_right_empty ep _ h0 h1).mono ?_
  rintro e w1 ⟨rfl, hc1⟩
  have HB1 := Lib.hid (HB0.out.kept hc1 (by simp))
  have C1 := Lib.hid (((Chg.refl [] w).alloc (.cells #[intV ep, intV 0, .slice none 0 0] 125)).trans0 hc1)
  have Z1 : Hid (ZSt w w1 w1.drew (.slice none 0 0) 0 ep) := Lib.hid ⟨Own.nil _ _ _, C1.out.drew, by simp [ownBlk], HB1.out, Nat.le_refl _, HB1.out.lt⟩
  have q1 := HB1.out.cell 1
  have q2 := HB1.out.cell 2
  simp at q1 q2
  clear hc1
  go_wp2_with fail
  go_region_held3 (fun w' => w'.cell? ⟨w.heap.size, 1, none⟩ = some (intV 0) ∧ w'.cell? ⟨w.heap.size, 2, none⟩ = some (.slice none 0 0))
    (first | exact ⟨q1, q2⟩ | exact ⟨q3, q4⟩ | exact ⟨q5, q6⟩)
    (first
    | (go_at_call 158; refine (root_two_z Z2.out (by omega)).mono ?_; rintro e w3 ⟨v3, rfl, hz3⟩; have Z3 := Lib.hid hz3; have q5 := hz3.blk.cell 1; have q6 := hz3.blk.cell 2; simp at q5 q6; clear hz3)
    | (go_at_call 158; refine (root_two_z Z1.out (by omega)).mono ?_; rintro e w2 ⟨v2, rfl, hz2⟩; have Z2 := Lib.hid hz2; have q3 := hz2.blk.cell 1; have q4 := hz2.blk.cell 2; simp at q3 q4; clear hz2))
  clear q1 q2 q3 q4 q5 q6 Z1 Z2 HB1
  have Z4 := Lib.hid (Z3.out.on ((Chg.refl [] w3).alloc (.cells #[.int .i64 0, .int .i64 0, .int .i64 0, .int .i64 0, .int .i64 0] 185)))
  have q6 := Z4.out.blk.cell 2
  simp at q6
  go_wp2_with fail
  go_region
  have Z5 := Lib.hid (show ZSt w w1 (w3.alloc (.cells #[.int .i64 0, .int .i64 0, .int .i64 0, .int .i64 0, .int .i64 0] 185)).drew v3 4 ep from ⟨Z4.out.own, Z4.out.chg.drew, Z4.out.new, Z4.out.blk, Z4.out.size, Z4.out.lt⟩)
  clear q6 Z4 Z3
  go_wp2_with fail
  generalize (w3.alloc (.cells #[.int .i64 0, .int .i64 0, .int .i64 0, .int .i64 0, .int .i64 0] 185)).drew = w5 at *
  go_loopg [4, 24] 5 (fun k v i wr => ∃ j : Nat, k + j = 5 ∧ i = .int .i64 j ∧ ZSt w w1 wr v (4 + 2 * j) ep)
  case atStart => exact ⟨0, by omega, rfl, Z5.out⟩
  case round =>
    obtain ⟨j, hj, rfl, hz⟩ := hrel
    have HZ := Lib.hid hz
    have hidx := idx5 j
    clear hz
    by_cases hj5 : j = 5
    · obtain rfl : gk = 0 := by omega
      subst hj5
      clear hidx
      go_wp2_with fail
      have HZ' : Hid (ZSt w w1 wr u4 14 ep) := HZ
      clear HZ Z5
      go_loopg [4] 30 (fun k v wr => ∃ j : Nat, k + j = 30 ∧ ZSt w w1 wr v (14 + j) ep)
      case atStart => exact ⟨0, by omega, HZ'.out⟩
      case round =>
        obtain ⟨j, hj, hz⟩ := hrel
        obtain ⟨ad, c, rfl, hnc, hcm⟩ := hz.own.shape
        have HZ := Lib.hid hz
        clear hz HZ'
        by_cases hj30 : j = 30
        · obtain rfl : gk = 0 := by omega
          subst hj30
          have HO : Hid (Own wr 5 1 (.slice ad (14 + 30) c) (List.replicate 44 (0 : UInt8)).length (byts (List.replicate 44 0))) := Lib.hid (by rw [List.length_replicate]; exact HZ.out.own)
          go_wp2_with (first
            | (refine wpList_own_str rfl (.tmp 37) 141 9 5 rfl Tryz.underlying141 Tryz.underlying5 Tryz.underlying9 _ (List.replicate 44 0) 5 rfl HO.out ?_)
            | (go_at_call 159; refine (crc_lay (List.replicate 44 0) _ (by simp) (by simp)).mono ?_; rw [← HCL.out]; rintro e w7 ⟨rfl, hc7⟩; have Z7 := Lib.hid (HZ.out.on hc7); have r1 := Z7.out.blk.cell 0; simp at r1; clear hc7))
          have l1 : cl.length = 48 := by
            rw [HCL.out]
            decide
          have i1 : IsStr (strV cl) := IsStr.mk' (by omega)
          have i2 : IsStr (strV (packI ep)) := IsStr.mk' (by rw [packI_length]; omega)
          have i3 : IsStr (strV (packI ep ++ cl)) := IsStr.mk' (by rw [List.length_append, packI_length]; omega)
          clear l1
          go_region_held3 (fun w' => w'.cell? ⟨w.heap.size, 0, none⟩ = some (intV ep))
            (first | exact r1 | exact r2 | exact r3)
            (first
            | (go_at_call 160; refine (pack_i ep w8).mono ?_; rintro e w9 ⟨rfl, hc9⟩; have Z9 := Lib.hid (Z8.out.on hc9); have r3 := Z9.out.blk.cell 0; simp at r3; clear hc9)
            | (go_at_call 160; refine (pack_i ep _).mono ?_; rintro e w8 ⟨rfl, hc8⟩; have Z8 := Lib.hid (Z7.out.on (((Chg.refl [] w7).drew).trans0 hc8)); have r2 := Z8.out.blk.cell 0; simp at r2; clear hc8))
          go_wp2_with fail
          go_ret2
          exact ⟨rfl, Z9.out.chg⟩
        · obtain ⟨m, rfl⟩ : ∃ m, gk = m + 1 := ⟨gk - 1, by omega⟩
          have hjj : (14 : Int) + (j : Int) < 44 := by omega
          go_wp2_with (refine wpList_append rfl (.tmp 34) (.tmp 35) 141 141 rfl 5 1 1 (bytV 0) Tryz.underlying141 info_u8 rfl (by omega) (.slice ad (14 + j) c) (14 + j) 1 _ _ rfl (HZ.out.own.alloc _) (src_one Tryz.underlying141 wr (.int .u8 0) rfl 5) (by omega) (by unfold maxLen; omega) ?_; intro ad' c' w2 hown2 hc2 hge2 hcm2 hkc2)
          go_roundg m
          case measure => omega
          case rel =>
            refine ⟨j + 1, by omega, HZ.out.step (((Chg.refl _ _).alloc _).trans1 hc2) ?_ ?_⟩
            · have e : byts (List.replicate (14 + (j + 1)) 0) = byts (List.replicate (14 + j) 0) ++ [.int .u8 0] := by
                rw [show 14 + (j + 1) = (14 + j) + 1 by omega, List.replicate_succ']
                simp [byts]
              rw [e]
              exact hown2
            · intro k hk
              rcases hge2 k hk with h | h
              · exact .inl h
              · simp at h
                exact .inr (by omega)
    · obtain ⟨m, rfl⟩ : ∃ m, gk = m + 1 := ⟨gk - 1, by omega⟩
      have hjj : (j : Int) < 5 := by omega
      have hix := hidx (by omega)
      clear hidx
      go_wp2_with (go_at_call 158; refine (root_two_z HZ.out (by omega)).mono ?_; rintro e w6 ⟨v6, rfl, hz6⟩)
      go_roundg m
      case measure => omega
      case rel => exact ⟨j + 1, by omega, by first | rfl | go_num, by rw [show 4 + 2 * (j + 1) = 4 + 2 * j + 2 by omega]; exact hz6⟩

end Go.Proofs.YtjbpdgknhbnfgaaGreat

namespace Go.Proofs.YtjbpdgknhbnfgaaGreat
open Go.RowKit
set_option maxRecDepth 100000

theorem idxOf_mem (L : List Int) (x : Int) : (0 ≤ idxOf L x) = (x ∈ L) := by
  unfold idxOf
  apply propext
  by_cases h : x ∈ L
  · have : L.findIdx (fun v => v == x) < L.length := List.findIdx_lt_length_of_exists ⟨x, h, by simp⟩
    rw [if_pos this]
    exact ⟨fun _ => h, fun _ => by omega⟩
  · have : ¬ L.findIdx (fun v => v == x) < L.length := fun hl => by
      have h2 := List.findIdx_getElem (w := hl)
      simp at h2
      exact h (by rw [← h2]; exact List.getElem_mem _)
    rw [if_neg this]
    exact ⟨fun h1 => by omega, fun h1 => absurd h1 h⟩

theorem slices_contains {w : World} {v : Value} {L : List Int} (h : Own w 3 1 v L.length (ints L)) (x : Int) (hl : L.length ≤ 60000) :
    Calls Tryz.prog 199 #[v, intV x] w fun e w' => e = .returned (.bool (decide (x ∈ L))) ∧ w = w' := by
  have hi := slices_index h x hl
  have he : decide (x ∈ L) = decide (0 ≤ idxOf L x) := by simp only [idxOf_mem]
  rw [he]
  have HI := Lib.hid hi
  clear he hi
  obtain ⟨a, c, rfl, -, -⟩ := h.shape
  clear h
  generalize idxOf L x = i at *
  go_enter Tryz.func199, Tryz.ntmps199
  go_wp2_with (go_at_call 87; (with_reducible refine HI.out.mono ?_); rintro e w' ⟨rfl, rfl⟩)
  go_ret
  exact ⟨rfl, rfl⟩

theorem partsRight_step (L : List Int) (k : Nat) (hk : k < L.length) (h0 : 0 ≤ L[k]) (h1 : L[k] ≤ 1023) (hn : L[k] ∉ L.take k) : partsRight (L.take k) (L.drop k) = partsRight (L.take (k + 1)) (L.drop (k + 1)) := by
  rw [List.drop_eq_getElem_cons hk, partsRight, if_neg (by rintro (h | h | h); omega; omega; exact hn h), List.take_succ_eq_append_getElem hk]
theorem partsRight_bad (L : List Int) (k : Nat) (hk : k < L.length) (h : L[k] < 0 ∨ 1023 < L[k] ∨ L[k] ∈ L.take k) : partsRight (L.take k) (L.drop k) = false := by
  rw [List.drop_eq_getElem_cons hk, partsRight, if_pos h]
theorem partsRight_end (L : List Int) : partsRight (L.take L.length) (L.drop L.length) = true := by
  rw [List.drop_length, partsRight]

/-- The head of right: all but the parts. -/
def Root.headBad (r : Root) : Prop := r.epoch < 1 ∨ 1099511627776 < r.epoch ∨ r.logical < 0 ∨ 512 < r.logical ∨ (r.parts.length : Int) ≠ rootNeed r.logical

theorem root_right {w : World} {pv : Value} {r : Root} (h : Own w 3 1 pv r.parts.length (ints r.parts)) (hl : r.parts.length ≤ 60000) :
    Calls Tryz.prog 157 #[.agg #[intV r.epoch, intV r.logical, pv]] w fun e w' => e = .returned (.bool r.right) ∧ Chg [] w w' := by
  obtain ⟨ep, lg, L⟩ := r
  dsimp only at h hl ⊢
  obtain ⟨ad, c, rfl, hnc, hcm⟩ := h.shape
  have HO := Lib.hid h
  clear h
  by_cases c1 : ep < 1
  · have hr : Root.right ⟨ep, lg, L⟩ = false := if_pos (.inl c1)
    rw [hr]
    have f1 : decide (ep < 1) = true := by simpa using c1
    clear hr c1
    go_enter Tryz.func157, Tryz.ntmps157
    go_wp2_with fail
    go_quiet (fail)
    go_wp2_with fail
    go_ret
    exact ⟨rfl, ((Chg.refl _ _).alloc _).drewN _⟩
  have f1 : decide (ep < 1) = false := by simpa using c1
  by_cases c2 : 1099511627776 < ep
  · have hr : Root.right ⟨ep, lg, L⟩ = false := if_pos (.inr (.inl c2))
    rw [hr]
    have f2 : decide (1099511627776 < ep) = true := by simpa using c2
    clear hr c1 c2
    go_enter Tryz.func157, Tryz.ntmps157
    go_wp2_with fail
    go_quiet (fail)
    go_wp2_with fail
    go_ret
    exact ⟨rfl, ((Chg.refl _ _).alloc _).drewN _⟩
  have f2 : decide (1099511627776 < ep) = false := by simpa using c2
  by_cases c3 : lg < 0
  · have hr : Root.right ⟨ep, lg, L⟩ = false := if_pos (.inr (.inr (.inl c3)))
    rw [hr]
    have f3 : decide (lg < 0) = true := by simpa using c3
    clear hr c1 c2 c3
    go_enter Tryz.func157, Tryz.ntmps157
    go_wp2_with fail
    go_quiet (fail)
    go_wp2_with fail
    go_ret
    exact ⟨rfl, ((Chg.refl _ _).alloc _).drewN _⟩
  have f3 : decide (lg < 0) = false := by simpa using c3
  by_cases c4 : 512 < lg
  · have hr : Root.right ⟨ep, lg, L⟩ = false := if_pos (.inr (.inr (.inr (.inl c4))))
    rw [hr]
    have f4 : decide (512 < lg) = true := by simpa using c4
    clear hr c1 c2 c3 c4
    go_enter Tryz.func157, Tryz.ntmps157
    go_wp2_with fail
    go_quiet (fail)
    go_wp2_with fail
    go_ret
    exact ⟨rfl, ((Chg.refl _ _).alloc _).drewN _⟩
  have f4 : decide (512 < lg) = false := by simpa using c4
  have HN := Lib.hid (fun w => root_need lg w (by omega) (by omega))
  by_cases c5 : (L.length : Int) ≠ rootNeed lg
  · have hr : Root.right ⟨ep, lg, L⟩ = false := if_pos (.inr (.inr (.inr (.inr c5))))
    rw [hr]
    have f5 : ((L.length : Int) != rootNeed lg) = true := by simpa using c5
    clear hr c1 c2 c3 c4 c5
    go_enter Tryz.func157, Tryz.ntmps157
    go_wp2_with fail
    go_quiet ((go_at_call 102; exact quiet_kept (HN.out _)))
    go_wp2_with fail
    go_ret
    exact ⟨rfl, ((Chg.refl _ _).alloc _).drewN _⟩
  have f5 : ((L.length : Int) != rootNeed lg) = false := by simpa using c5
  have hr : Root.right ⟨ep, lg, L⟩ = partsRight [] L := if_neg (by rintro (h | h | h | h | h); exact c1 h; exact c2 h; exact c3 h; exact c4 h; exact c5 h)
  rw [hr]
  clear hr c1 c2 c3 c4 c5
  have HL : Hid (L.length ≤ 60000) := Lib.hid hl
  go_enter Tryz.func157, Tryz.ntmps157
  go_wp2_with fail
  go_quiet ((go_at_call 102; exact quiet_kept (HN.out _)))
  go_wp2_with fail
  go_loop [35] (fun i => ∃ k : Nat, k ≤ L.length ∧ i = .int .i64 k ∧ partsRight (L.take k) (L.drop k) = partsRight [] L) (fun i => L.length - (intOf i).toNat)
  case atStart => exact ⟨0, Nat.zero_le _, rfl, rfl⟩
  case round =>
    obtain ⟨k, hk, rfl, hpr⟩ := hrel
    have HPR := Lib.hid hpr
    clear hpr
    by_cases hlt : k < L.length
    · obtain ⟨g, cap, cur, hv, -⟩ := HO.out.pos (by omega)
      simp only [Value.slice.injEq] at hv
      obtain ⟨rfl, -, rfl⟩ := hv
      have hW : Chg [] w ((w.alloc (Obj.cells #[intV ep, intV lg, Value.slice (some ⟨g, 0, none⟩) L.length c] 125)).drewN nq) := ((Chg.refl _ _).alloc _).drewN _
      have HOW := Lib.hid (HO.out.kept hW (by simp))
      obtain ⟨c0, z0⟩ := HOW.out.cell rfl hlt
      rw [ints_get, List.getElem?_eq_getElem hlt] at c0
      simp only [Option.map_some] at c0
      have HCT := Lib.hid (slices_contains (L := L.take k) (v := .slice (some ⟨g, 0, none⟩) k c) (by have := HOW.out.cut k (by omega); rw [Nat.mul_one] at this; rw [List.length_take, Nat.min_eq_left (by omega)]; simpa [ints, List.map_take] using this) L[k] (by simp; omega))
      have HW := Lib.hid hW
      have HST := Lib.hid (partsRight_step L k hlt)
      have HBD := Lib.hid (partsRight_bad L k hlt)
      have hltI : (k : Int) < (L.length : Int) := by omega
      have hkc : k ≤ c := by omega
      have hcm2 : c ≤ 9223372036854775807 := by unfold maxLen at hcm; omega
      obtain ⟨x, hx⟩ : ∃ x, L[k] = x := ⟨_, rfl⟩
      rw [hx] at c0 HCT HST HBD
      clear hW hx hl hk z0
      by_cases e1 : x < 0
      · have b1 : decide (x < 0) = true := by simpa using e1
        have HR : Hid (partsRight [] L = false) := Lib.hid (by rw [← HPR.out]; exact HBD.out (.inl e1))
        clear e1 HCT HST HBD
        go_wp2_with fail
        go_ret
        exact ⟨by rw [HR.out]; rfl, HW.out⟩
      · have b1 : decide (x < 0) = false := by simpa using e1
        by_cases e2 : 1023 < x
        · have b2 : decide (1023 < x) = true := by simpa using e2
          have HR : Hid (partsRight [] L = false) := Lib.hid (by rw [← HPR.out]; exact HBD.out (.inr (.inl e2)))
          clear e1 e2 HCT HST HBD
          go_wp2_with fail
          go_ret
          exact ⟨by rw [HR.out]; rfl, HW.out⟩
        · have b2 : decide (1023 < x) = false := by simpa using e2
          by_cases e3 : x ∈ L.take k
          · have b3 : decide (x ∈ L.take k) = true := by simpa using e3
            rw [b3] at HCT
            have HR : Hid (partsRight [] L = false) := Lib.hid (by rw [← HPR.out]; exact HBD.out (.inr (.inr e3)))
            clear e1 e2 e3 b3 HST HBD
            go_wp2_with (go_at_call 199; (with_reducible refine HCT.out.mono ?_); rintro e w' ⟨rfl, rfl⟩)
            go_ret
            exact ⟨by rw [HR.out]; rfl, HW.out⟩
          · have b3 : decide (x ∈ L.take k) = false := by simpa using e3
            rw [b3] at HCT
            have HR : Hid (partsRight (L.take (k + 1)) (L.drop (k + 1)) = partsRight [] L) := Lib.hid (by rw [← HST.out (by omega) (by omega) e3]; exact HPR.out)
            clear e1 e2 e3 b3 HST HBD
            go_wp2_with (go_at_call 199; (with_reducible refine HCT.out.mono ?_); rintro e w' ⟨rfl, rfl⟩)
            go_round
            case rel => exact ⟨k + 1, by omega, by go_num, HR.out⟩
            case measure => simp [intOf]; omega
    · obtain rfl : k = L.length := by omega
      have HR : Hid (partsRight [] L = true) := Lib.hid (by rw [← HPR.out]; exact partsRight_end L)
      clear hl hk hlt
      go_wp2_with fail
      go_ret
      exact ⟨by rw [HR.out]; rfl, ((Chg.refl _ _).alloc _).drewN _⟩

end Go.Proofs.YtjbpdgknhbnfgaaGreat

namespace Go.Proofs.YtjbpdgknhbnfgaaGreat
open Go.RowKit
set_option maxRecDepth 100000

/-- the state while root.Put lays its body -/
structure PSt (w w1 wr : World) (v : Value) (bs : Bytes) (ep lg : Int) (pv : Value) (L : List Int) : Prop where
  own : Own wr 5 1 v bs.length (byts bs)
  chg : Chg [] w wr
  new : ∀ k ∈ ownBlk v, w1.heap.size ≤ k
  blk : Blk wr w.heap.size 125 [intV ep, intV lg, pv]
  size : w1.heap.size ≤ wr.heap.size
  lt : w.heap.size < w1.heap.size
  parts : Own wr 3 1 pv L.length (ints L)
theorem PSt.on {w w1 wr w2 : World} {v pv : Value} {bs : Bytes} {ep lg : Int} {L : List Int} (h : PSt w w1 wr v bs ep lg pv L) (hc : Chg [] wr w2) : PSt w w1 w2 v bs ep lg pv L :=
  ⟨h.own.kept hc (by simp), h.chg.trans0 hc, h.new, h.blk.kept hc (by simp), Nat.le_trans h.size hc.size, h.lt, h.parts.kept hc (by simp)⟩
theorem PSt.step {w w1 wr w2 : World} {v v' pv : Value} {bs cs : Bytes} {ep lg : Int} {L : List Int} (h : PSt w w1 wr v bs ep lg pv L) (hp : ∀ k ∈ ownBlk pv, k < w.heap.size) (hc : Chg (ownBlk v) wr w2)
    (ho : Own w2 5 1 v' cs.length (byts cs)) (hn : ∀ k ∈ ownBlk v', k ∈ ownBlk v ∨ wr.heap.size ≤ k) : PSt w w1 w2 v' cs ep lg pv L :=
  ⟨ho, h.chg.trans hc (fun k hk => .inr (by have := h.new k hk; have := h.lt; omega)), fun k hk => by
      rcases hn k hk with h1 | h1
      · exact h.new k h1
      · have := h.size; omega,
    h.blk.kept hc (fun hk => by have := h.new _ hk; have := h.lt; omega), Nat.le_trans h.size hc.size, h.lt, h.parts.kept hc (fun k hk hm => by have := h.new _ hm; have := hp k hk; have := h.lt; omega)⟩
theorem PSt.onNew {w w1 wr w2 : World} {v pv : Value} {bs : Bytes} {ep lg : Int} {L : List Int} {g : Nat} (h : PSt w w1 wr v bs ep lg pv L) (hp : ∀ k ∈ ownBlk pv, k < w.heap.size) (hc : Chg [g] wr w2) (h1 : w1.heap.size ≤ g) (h2 : g ∉ ownBlk v) : PSt w w1 w2 v bs ep lg pv L :=
  ⟨h.own.kept hc (fun k hk hm => by simp at hm; subst hm; exact h2 hk), h.chg.trans hc (fun k hk => by simp at hk; subst hk; have := h.lt; exact .inr (by omega)), h.new, h.blk.kept hc (fun hm => by simp at hm; have := h.lt; omega), Nat.le_trans h.size hc.size, h.lt,
    h.parts.kept hc (fun k hk hm => by simp at hm; subst hm; have := hp _ hk; have := h.lt; omega)⟩
theorem root_two_p {w w1 wr : World} {v pv : Value} {bs : Bytes} {ep lg : Int} {L : List Int} (h : PSt w w1 wr v bs ep lg pv L) (hp : ∀ k ∈ ownBlk pv, k < w.heap.size) (n : Int) (h0 : 0 ≤ n) (h1 : n ≤ 65535) (hl : bs.length ≤ 60000) :
    Calls Tryz.prog 158 #[v, intV n] wr fun e w' => ∃ v', e = .returned v' ∧ PSt w w1 w' v' (bs ++ two n) ep lg pv L := by
  refine (root_two h.own n h0 h1 hl).mono ?_
  rintro e w' ⟨v', rfl, ho', hc, hg⟩
  exact ⟨v', rfl, h.step hp hc ho' hg⟩

/-- copying a list of at most five ints into a new array of five -/
theorem size_int : (Tryz.prog.info? 3).map (·.size) = some 1 := by kernel_rfl
theorem copy_five {w : World} {pv : Value} {L : List Int} (h : Own w 3 1 pv L.length (ints L)) (h5 : L.length ≤ 5) (g : Nat) (hB : Blk w g 185 [intV 0, intV 0, intV 0, intV 0, intV 0]) :
    ∃ w', (Builtin.copy_ #[52, 52] 3 #[.slice (some ⟨g, 0, none⟩) 5 5, pv]).run Tryz.prog w = .ok (.int .i64 (L.length : Nat)) w' ∧ Blk w' g 185 (ints (L ++ List.replicate (5 - L.length) 0)) ∧ Chg [g] w w' := by
  by_cases h0 : L.length = 0
  · obtain rfl : L = [] := List.eq_nil_of_length_eq_zero h0
    obtain ⟨a, c, rfl, -, -⟩ := h.shape
    refine ⟨w, ?_, hB, Chg.refl _ _⟩
    exact run_copy_none (P := Tryz.prog) w 52 52 3 3 (some ⟨g, 0, none⟩) a 5 5 0 c Tryz.underlying52 size_int rfl
  · obtain ⟨g2, cap, cur, rfl, -, hB2, hn, -, hcl, hct⟩ := h.pos (by omega)
    have hcells : ∀ j v, (ints L)[j]? = some v → w.cell? (Addr.add ⟨g2, 0, none⟩ j) = some v := fun j v hv => by
      have hj : j < (ints L).length := (List.getElem?_eq_some_iff.1 hv).1
      rw [add_spot, hB2.cell, Nat.zero_add, getElem_take' hct hj]
      exact hv
    have hr := run_copy_row (P := Tryz.prog) w 52 52 3 3 g 0 5 5 ⟨g2, 0, none⟩ L.length cap _ _ (ints L) Tryz.underlying52 size_int hB (by rw [length_ints]; exact (Nat.min_eq_left h5).symm) hcells (by simp; omega) (ints_one L)
    rw [length_ints] at hr
    refine ⟨_, hr, ?_, (Chg.refl _ _).setRow g _ (.inl (by simp))⟩
    have e : ([intV 0, intV 0, intV 0, intV 0, intV 0].toArray.toList.take 0 ++ ints L ++ [intV 0, intV 0, intV 0, intV 0, intV 0].toArray.toList.drop (0 + L.length)) = ints (L ++ List.replicate (5 - L.length) 0) := by
      have e5 : [intV 0, intV 0, intV 0, intV 0, intV 0].drop (0 + L.length) = List.replicate (5 - L.length) (intV 0) := by
        have : [intV 0, intV 0, intV 0, intV 0, intV 0] = List.replicate 5 (intV 0) := rfl
        rw [this, List.drop_replicate, Nat.zero_add]
      show [] ++ ints L ++ [intV 0, intV 0, intV 0, intV 0, intV 0].drop (0 + L.length) = _
      rw [e5]
      simp [ints]
    rw [e]
    exact hB.row _

theorem size_five : (Tryz.prog.info? 185).map (·.size) = some 5 := by kernel_rfl
theorem load_five {ρ : Operand → Value} {w : World} {x : Operand} {dst type pos after guard} (h : PtrRow w (ρ x) 5) :
    (execOp ρ { dst := dst, op := .load 185 x, type := type, pos := pos, after := after, guard := guard }).run Tryz.prog w = .ok (.value (.agg (rowOf w (ρ x) 5))) w :=
  exec_load_agg Tryz.underlying185 rfl size_five h
theorem idx_five (a0 a1 a2 a3 a4 : Int) : ∀ (j : Nat) (hj : j < [a0, a1, a2, a3, a4].length) (w : World), (Instr.index 185 (.agg #[intV a0, intV a1, intV a2, intV a3, intV a4]) (.int .i64 (j : Int))).run Tryz.prog w = .ok (intV [a0, a1, a2, a3, a4][j]) w
  | 0, _, w => by kernel_rfl
  | 1, _, w => by kernel_rfl
  | 2, _, w => by kernel_rfl
  | 3, _, w => by kernel_rfl
  | 4, _, w => by kernel_rfl
  | _ + 5, h, _ => absurd h (by simp)

theorem rootPut_no {r : Root} (h : r.right = false) : rootPut r = ([], 2) := if_pos h
theorem rootPut_yes {r : Root} (h : r.right = true) : rootPut r = (r.bytes, 0) := if_neg (by rw [h]; simp)
theorem partsRight_all : ∀ (seen l : List Int), partsRight seen l = true → ∀ x ∈ l, 0 ≤ x ∧ x ≤ 1023
  | _, [], _ => by simp
  | seen, p :: l, h => by
    unfold partsRight at h
    by_cases hc : p < 0 ∨ 1023 < p ∨ p ∈ seen
    · rw [if_pos hc] at h
      cases h
    · rw [if_neg hc] at h
      intro x hx
      rcases List.mem_cons.1 hx with rfl | hx
      · omega
      · exact partsRight_all _ l h x hx
theorem Root.right_facts {r : Root} (h : r.right = true) : 1 ≤ r.epoch ∧ r.epoch ≤ 1099511627776 ∧ 0 ≤ r.logical ∧ r.logical ≤ 512 ∧ (r.parts.length : Int) = rootNeed r.logical ∧ r.parts.length ≤ 5 ∧ ∀ x ∈ r.parts, 0 ≤ x ∧ x ≤ 1023 := by
  unfold Root.right at h
  split at h
  · cases h
  · rename_i hn
    have h2 : (r.parts.length : Int) = rootNeed r.logical := by
      apply Classical.byContradiction
      intro hc
      exact hn (.inr (.inr (.inr (.inr hc))))
    have h3 : ¬ (r.epoch < 1 ∨ 1099511627776 < r.epoch ∨ r.logical < 0 ∨ 512 < r.logical) := fun hc => hn (by rcases hc with hc | hc | hc | hc <;> simp [hc])
    refine ⟨by omega, by omega, by omega, by omega, h2, ?_, partsRight_all _ _ h⟩
    unfold rootNeed at h2
    split at h2 <;> omega

theorem root_put_no {w : World} {pv : Value} {r : Root} (h : Own w 3 1 pv r.parts.length (ints r.parts)) (hl : r.parts.length ≤ 60000) (hr : r.right = false) :
    Calls Tryz.prog 97 #[.agg #[intV r.epoch, intV r.logical, pv]] w fun e w' => e = .returned (.tuple #[strV (rootPut r).1, intV (rootPut r).2]) ∧ Chg [] w w' := by
  rw [rootPut_no hr]
  have hrt : ∀ w', Chg [] w w' → _ := fun w' hc => root_right (h.kept hc (by simp)) hl
  rw [hr] at hrt
  have HR := Lib.hid hrt
  obtain ⟨ad, c, rfl, -, -⟩ := h.shape
  clear hrt hr h
  obtain ⟨ep, lg, L⟩ := r
  dsimp only at HR hl ⊢
  go_enter Tryz.func97, Tryz.ntmps97
  go_wp2_with (go_at_call 157; (with_reducible refine (HR.out _ ((Chg.refl _ _).alloc _)).mono ?_); rintro e w1 ⟨rfl, hc1⟩; have C1 := Lib.hid (((Chg.refl [] w).alloc (.cells #[intV ep, intV lg, .slice ad L.length c] 125)).trans0 hc1); clear hc1)
  go_ret2
  exact ⟨rfl, C1.out⟩

theorem bodyOf (lg : Int) (L M : List Int) (hM : M = L ++ List.replicate (5 - L.length) 0) (ep : Int) :
    Root.body ⟨ep, lg, L⟩ = two lg ++ two (L.length : Int) ++ twos M ++ List.replicate 30 0 := by
  subst hM
  rfl
theorem two_len6 (n : Int) : (two n).length = 2 := rfl
theorem twos_snoc (L : List Int) (x : Int) : twos (L ++ [x]) = twos L ++ two x := by simp [twos]
theorem twos_len6 : ∀ L : List Int, (twos L).length = 2 * L.length
  | [] => rfl
  | a :: l => by
    have := twos_len6 l
    unfold twos at this ⊢
    rw [List.flatMap_cons, List.length_append, this, two_len6, List.length_cons]
    omega

theorem add_str9' {ρ : Operand → Value} {w : World} {x y : Operand} {dst t t' type pos after guard} (h1 : IsStr (ρ x)) (h2 : IsStr (ρ y)) :
    (execOp ρ { dst := dst, op := .binOp .add t x y t', type := type, pos := pos, after := after, guard := guard }).run Tryz.prog w = .ok (.value (strV (strOf (ρ x) ++ strOf (ρ y)))) w :=
  exec_add_str h1 h2
attribute [local go_sem ↓] add_str9' load_five
attribute [local go_sem] strOf_strV

set_option maxHeartbeats 4000000 in
theorem root_put_yes {w : World} {pv : Value} {r : Root} (h : Own w 3 1 pv r.parts.length (ints r.parts)) (hr : r.right = true) :
    Calls Tryz.prog 97 #[.agg #[intV r.epoch, intV r.logical, pv]] w fun e w' => e = .returned (.tuple #[strV (rootPut r).1, intV (rootPut r).2]) ∧ Chg [] w w' := by
  rw [rootPut_yes hr]
  obtain ⟨f1, f2, f3, f4, -, f5, f6⟩ := Root.right_facts hr
  have hrt : ∀ w', Chg [] w w' → _ := fun w' hc => root_right (h.kept hc (by simp)) (by omega)
  rw [hr] at hrt
  obtain ⟨ep, lg, L⟩ := r
  dsimp only at h hrt f1 f2 f3 f4 f5 f6 ⊢
  have HR := Lib.hid hrt
  obtain ⟨M, hM⟩ : ∃ M, M = L ++ List.replicate (5 - L.length) 0 := ⟨_, rfl⟩
  have hM5 : M.length = 5 := by rw [hM]; simp; omega
  have hMb : ∀ x ∈ M, 0 ≤ x ∧ x ≤ 65535 := fun x hx => by
    rw [hM] at hx
    rcases List.mem_append.1 hx with h1 | h1
    · have := f6 x h1; omega
    · have := (List.mem_replicate.1 h1).2; omega
  have hby : Root.bytes ⟨ep, lg, L⟩ = (packI ep ++ crcLay (two lg ++ two (L.length : Int) ++ twos M ++ List.replicate 30 0)) ++ packI ep := by
    rw [← bodyOf lg L M hM ep]
    rfl
  rw [hby]
  clear hby hrt hr
  have hbl : (two lg ++ two (L.length : Int) ++ twos M).length = 14 := by simp [two_len6, twos_len6, hM5]
  obtain ⟨cl, hcl⟩ : ∃ cl, cl = crcLay (two lg ++ two (L.length : Int) ++ twos M ++ List.replicate 30 0) := ⟨_, rfl⟩
  rw [← hcl]
  have hcl2 : cl.length = 48 := by
    rw [hcl, crcLay, List.length_append, List.length_append, hbl]
    simp [crcFour]
  have HCL := Lib.hid hcl
  clear hcl
  have hlt := h.lt
  obtain ⟨ad, c, rfl, hnc, hcm⟩ := h.shape
  have HO := Lib.hid h
  have HLT := Lib.hid hlt
  have HB0 : Hid (Blk (w.alloc (.cells #[intV ep, intV lg, .slice ad L.length c] 125)) w.heap.size 125 [intV ep, intV lg, .slice ad L.length c]) := Lib.hid (Blk.new w _ _)
  clear h hlt
  go_enter Tryz.func97, Tryz.ntmps97
  go_wp2_with (go_at_call 157; (with_reducible refine (HR.out _ ((Chg.refl _ _).alloc _)).mono ?_); rintro e w1 ⟨rfl, hc1⟩; have HB1 := Lib.hid (HB0.out.kept hc1 (by simp)); have C1 := Lib.hid (((Chg.refl [] w).alloc (.cells #[intV ep, intV lg, .slice ad L.length c] 125)).trans0 hc1); clear hc1)
  have Z1 : Hid (PSt w w1 w1.drew (.slice none 0 0) [] ep lg (.slice ad L.length c) L) := Lib.hid ⟨Own.nil _ _ _, C1.out.drew, by simp [ownBlk], HB1.out, Nat.le_refl _, HB1.out.lt, HO.out.kept C1.out.drew (by simp)⟩
  have q1 := HB1.out.cell 1
  have q2 := HB1.out.cell 2
  simp at q1 q2
  go_region_held3 (fun w' => w'.cell? ⟨w.heap.size, 1, none⟩ = some (intV lg) ∧ w'.cell? ⟨w.heap.size, 2, none⟩ = some (.slice ad L.length c))
    (first | exact ⟨q1, q2⟩ | exact ⟨q3, q4⟩ | exact ⟨q5, q6⟩)
    (first
    | (go_at_call 158; refine (root_two_p Z2.out HLT.out (L.length : Int) (by omega) (by omega) (by simp [two_len6])).mono ?_; rintro e w3 ⟨v3, rfl, hz3⟩; have Z3 := Lib.hid hz3; have q5 := hz3.blk.cell 1; have q6 := hz3.blk.cell 2; simp at q5 q6; clear hz3)
    | (go_at_call 158; refine (root_two_p Z1.out HLT.out lg (by omega) (by omega) (by simp)).mono ?_; rintro e w2 ⟨v2, rfl, hz2⟩; have Z2 := Lib.hid hz2; have q3 := hz2.blk.cell 1; have q4 := hz2.blk.cell 2; simp at q3 q4; clear hz2))
  clear q1 q2 q3 q4 q5 q6 Z1 Z2 HB1
  have Z4 := Lib.hid ((Z3.out.on ((Chg.refl [] w3).alloc (.cells #[.int .i64 0, .int .i64 0, .int .i64 0, .int .i64 0, .int .i64 0] 185))).on ((Chg.refl [] _).drew))
  have HB4 : Hid (Blk (w3.alloc (.cells #[.int .i64 0, .int .i64 0, .int .i64 0, .int .i64 0, .int .i64 0] 185)).drew w3.heap.size 185 [intV 0, intV 0, intV 0, intV 0, intV 0]) := Lib.hid (Blk.new w3 _ _).drew
  have q6 := Z4.out.blk.cell 2
  simp at q6
  have hcp := copy_five Z4.out.parts f5 w3.heap.size HB4.out
  obtain ⟨w5, hcp, hB5, hC5⟩ := hcp
  have HB5 := Lib.hid hB5
  have HC5 := Lib.hid hC5
  clear hB5 hC5
  go_wp2_with fail
  go_region
  have hnv : w3.heap.size ∉ ownBlk v3 := fun hm => absurd (Z3.out.own.lt _ hm) (Nat.lt_irrefl _)
  have Z5 := Lib.hid (Z4.out.onNew HLT.out HC5.out Z3.out.size hnv)
  clear q6 Z4 Z3 HC5 hcp HB4 hnv
  rw [← hM] at HB5
  obtain ⟨a0, a1, a2, a3, a4, rfl⟩ : ∃ a0 a1 a2 a3 a4, M = [a0, a1, a2, a3, a4] := by
    match M, hM5 with
    | [a0, a1, a2, a3, a4], _ => exact ⟨a0, a1, a2, a3, a4, rfl⟩
  have hpr : PtrRow w5 (.pointer (some ⟨w3.heap.size, 0, none⟩)) 5 := PtrRow.mk' HB5.out (by simp)
  have hrow : rowOf w5 (.pointer (some ⟨w3.heap.size, 0, none⟩)) 5 = #[intV a0, intV a1, intV a2, intV a3, intV a4] := rowOf_blk HB5.out
  have HIX := Lib.hid (idx_five a0 a1 a2 a3 a4)
  have HMB := Lib.hid hMb
  generalize w3.heap.size = g5 at *
  clear hM hM5 hMb
  generalize hMM : [a0, a1, a2, a3, a4] = M at *
  go_wp2_with fail
  clear hpr hrow
  go_loopg [4, 24] 5 (fun k v i wr => ∃ j : Nat, k + j = 5 ∧ i = .int .i64 j ∧ PSt w w1 wr v (two lg ++ two (L.length : Int) ++ twos (M.take j)) ep lg (.slice ad L.length c) L)
  case atStart => exact ⟨0, by omega, rfl, by simpa [twos] using Z5.out⟩
  case round =>
    obtain ⟨j, hj, rfl, hz⟩ := hrel
    have HZ := Lib.hid hz
    clear hz
    have hM5 : M.length = 5 := by rw [← hMM]; rfl
    have HM5 := Lib.hid hM5
    clear hM5 hMM
    have HBL := Lib.hid hbl
    clear hbl
    by_cases hj5 : j = 5
    · obtain rfl : gk = 0 := by omega
      subst hj5
      rw [List.take_of_length_le (by rw [HM5.out]; omega)] at HZ
      generalize hh : two lg ++ two (L.length : Int) ++ twos M = hd at *
      clear hh HIX Z5 HMB
      go_wp2_with fail
      go_loopg [4] 30 (fun k v wr => ∃ j : Nat, k + j = 30 ∧ PSt w w1 wr v (hd ++ List.replicate j 0) ep lg (.slice ad L.length c) L)
      case atStart => exact ⟨0, by omega, by simpa using HZ.out⟩
      case round =>
        obtain ⟨j, hj, hz⟩ := hrel
        have hlen : (hd ++ List.replicate j (0 : UInt8)).length = 14 + j := by rw [List.length_append, HBL.out, List.length_replicate]
        have hown := hz.own
        rw [hlen] at hown
        obtain ⟨ad2, c2, rfl, hnc2, hcm2⟩ := hown.shape
        have HZ2 := Lib.hid hz
        have HOW := Lib.hid hown
        clear hz HZ hown
        by_cases hj30 : j = 30
        · obtain rfl : gk = 0 := by omega
          subst hj30
          have HO2 : Hid (Own wr 5 1 (.slice ad2 (14 + 30) c2) (hd ++ List.replicate 30 (0 : UInt8)).length (byts (hd ++ List.replicate 30 0))) := Lib.hid HZ2.out.own
          have HLEN := Lib.hid hlen
          clear hlen
          go_wp2_with (first
            | (refine wpList_own_str rfl (.tmp 37) 141 9 5 rfl Tryz.underlying141 Tryz.underlying5 Tryz.underlying9 _ (hd ++ List.replicate 30 0) 5 rfl HO2.out ?_)
            | (go_at_call 159; refine (crc_lay (hd ++ List.replicate 30 0) _ (by rw [HLEN.out]; omega) (by rw [HLEN.out]; omega)).mono ?_; rw [← HCL.out]; rintro e w7 ⟨rfl, hc7⟩; have Z7 := Lib.hid (HZ2.out.on hc7); have r1 := Z7.out.blk.cell 0; simp at r1; clear hc7))
          have i1 : IsStr (strV cl) := IsStr.mk' (by omega)
          have i2 : IsStr (strV (packI ep)) := IsStr.mk' (by rw [packI_length]; omega)
          have i3 : IsStr (strV (packI ep ++ cl)) := IsStr.mk' (by rw [List.length_append, packI_length]; omega)
          go_region_held3 (fun w' => w'.cell? ⟨w.heap.size, 0, none⟩ = some (intV ep))
            (first | exact r1 | exact r2 | exact r3)
            (first
            | (go_at_call 160; refine (pack_i ep w8).mono ?_; rintro e w9 ⟨rfl, hc9⟩; have Z9 := Lib.hid (Z8.out.on hc9); have r3 := Z9.out.blk.cell 0; simp at r3; clear hc9)
            | (go_at_call 160; refine (pack_i ep _).mono ?_; rintro e w8 ⟨rfl, hc8⟩; have Z8 := Lib.hid (Z7.out.on (((Chg.refl [] w7).drew).trans0 hc8)); have r2 := Z8.out.blk.cell 0; simp at r2; clear hc8))
          go_wp2_with fail
          go_ret2
          exact ⟨rfl, Z9.out.chg⟩
        · obtain ⟨m, rfl⟩ : ∃ m, gk = m + 1 := ⟨gk - 1, by omega⟩
          have hjj : (14 : Int) + (j : Int) < 44 := by omega
          have HLEN := Lib.hid hlen
          clear hlen
          go_wp2_with (refine wpList_append rfl (.tmp 34) (.tmp 35) 141 141 rfl 5 1 1 (bytV 0) Tryz.underlying141 info_u8 rfl (by omega) (.slice ad2 (14 + j) c2) (14 + j) 1 _ _ rfl (HOW.out.alloc _) (src_one Tryz.underlying141 wr (.int .u8 0) rfl 5) (by omega) (by unfold maxLen; omega) ?_; intro ad' c' w2' hown2 hc2 hge2 hcm2 hkc2)
          go_roundg m
          case measure => omega
          case rel =>
            have e : byts (hd ++ List.replicate (j + 1) 0) = byts (hd ++ List.replicate j 0) ++ [.int .u8 0] := by
              rw [List.replicate_succ']
              simp [byts]
            refine ⟨j + 1, by omega, HZ2.out.step HLT.out (((Chg.refl _ _).alloc _).trans1 hc2) ?_ ?_⟩
            · rw [e, List.length_append, HBL.out, List.length_replicate, ← Nat.add_assoc]
              exact hown2
            · intro k hk
              rcases hge2 k hk with h | h
              · exact .inl h
              · simp at h
                exact .inr (by omega)
    · obtain ⟨m, rfl⟩ : ∃ m, gk = m + 1 := ⟨gk - 1, by omega⟩
      have hjj : (j : Int) < 5 := by omega
      have hjm : j < M.length := by rw [HM5.out]; omega
      have hix := HIX.out j hjm
      have HMJ := Lib.hid (HMB.out M[j] (List.getElem_mem hjm))
      have HS : Hid (two lg ++ two (L.length : Int) ++ twos (M.take j) ++ two M[j] = two lg ++ two (L.length : Int) ++ twos (M.take (j + 1))) := Lib.hid (by rw [List.take_succ_eq_append_getElem hjm, twos_snoc, List.append_assoc])
      have HLB : Hid ((two lg ++ two (L.length : Int) ++ twos (M.take j)).length ≤ 60000) := Lib.hid (by simp [two_len6, twos_len6]; omega)
      generalize M[j] = mj at *
      clear HIX hjm
      go_wp2_with (go_at_call 158; refine (root_two_p HZ.out HLT.out mj HMJ.out.1 HMJ.out.2 HLB.out).mono ?_; rintro e w6 ⟨v6, rfl, hz6⟩)
      go_roundg m
      case measure => omega
      case rel => exact ⟨j + 1, by omega, by first | rfl | go_num, by rw [← HS.out]; exact hz6⟩

end Go.Proofs.YtjbpdgknhbnfgaaGreat
