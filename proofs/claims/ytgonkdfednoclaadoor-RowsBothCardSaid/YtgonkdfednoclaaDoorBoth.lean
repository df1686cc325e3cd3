/- RowsBoth, walked by hand: what comes of each of its ways out. -/
import Derived.Test.YtgonkdfednoclaaDoorPRowsx5
import Derived.Test.YtgonkdfednoclaaDoorPureRead
import Derived.Test.YtgonkdfednoclaaDoorPureBoth
namespace Go.Proofs.YtgonkdfednoclaaDoor.PRows
open Go.RowKit Go.Proofs.YtgonkdfednoclaaDoorW.PrintWords

theorem readC (s : ByteArray) (l : List S31) (e at_ : Int) (h : readL s.data.toList = (l, e, at_)) (w : World) (hT : XTab w) :
    Calls Tryd.prog 8 #[.string s] w fun r w' => ∃ A c, r = .returned (.tuple #[.slice A l.length c, .agg #[.int .i64 e, .int .i64 at_]]) ∧ Kd.C k31 w' A l.length l ∧ l.length ≤ c ∧ Below w.heap.size w w' := by
  refine (rows_Read.calls 131076 s l e at_ w hT (by rw [read_f s _ (Nat.le_refl _), h])).mono ?_
  rintro r w' ⟨v, rfl, ho, hb⟩
  obtain ⟨A, c, rfl⟩ := Kd.R_slice ho
  obtain ⟨_, h2, h3⟩ := Kd.R_reads' ho
  exact ⟨A, c, rfl, h3, h2, hb⟩
theorem aliveC (w : World) (hT : XTab w) : Calls Tryd.prog 7 #[] w fun e w' => e = .returned (.bool true) ∧ Below w.heap.size w w' :=
  grommetlaw02_alive.calls 40 true w hT (alive_some 40 (Nat.le_refl _))

set_option maxHeartbeats 4000000 in
set_option maxRecDepth 100000 in
theorem both_big (s t : ByteArray) (w : World) (hT : XTab w) (hs : s.size ≤ 140737488351232) (ht : t.size ≤ 140737488351232) (h : 60000 < s.size + t.size) :
    Calls Tryd.prog 3 #[.string s, .string t] w fun e w' => e = .returned (.bool true) ∧ Below w.heap.size w w' := by
  have HT := Aside0.mk hT
  clear hT
  go_enter Tryd.func3, Tryd.ntmps3
  go_wp2_with (go_at_call 7; refine (aliveC _ HT.out).mono ?_; rintro e w1 ⟨rfl, hb⟩)
  go_ret
  exact ⟨rfl, hb⟩

set_option maxHeartbeats 1000000 in
set_option maxRecDepth 100000 in
/-- The first text is refused. -/
theorem both_first (s t : ByteArray) (w : World) (hT : XTab w) (h : s.size + t.size ≤ 60000) (a b c : List S31) (f1 f2 g1 g2 : Int)
    (ha : readL (s.data.toList ++ [10]) = (a, f1, f2)) (hb : readL t.data.toList = (b, g1, g2)) (hc : readL (s.data.toList ++ [10] ++ t.data.toList) = (c, f1, f2)) (hf : f1 ≠ 0) :
    Calls Tryd.prog 3 #[.string s, .string t] w fun e w' => e = .returned (.bool true) ∧ Below w.heap.size w w' := by
  have ca := readC (s ++ (⟨#[10]⟩ : ByteArray)) a f1 f2 (by rw [ByteArray.data_append, Array.toList_append]; exact ha)
  have cb := readC t b g1 g2 hb
  have cc := readC (s ++ (⟨#[10]⟩ : ByteArray) ++ t) c f1 f2 (by rw [ByteArray.data_append, ByteArray.data_append, Array.toList_append, Array.toList_append]; exact hc)
  have HT := Aside0.mk hT
  have CA := Aside0.mk ca
  have CB := Aside0.mk cb
  have CC := Aside0.mk cc
  clear hT ca cb cc ha hb hc
  have hs1 : s.size ≤ 60000 := by omega
  have ht1 : t.size ≤ 60000 := by omega
  have d1 : decide (60000 < (s.size : Int) + (t.size : Int)) = false := decide_eq_false (by omega)
  have d2 : decide (60000 < s.size + t.size) = false := decide_eq_false (by omega)
  have e1 : (f1 == 0) = false := beq_eq_false_iff_ne.mpr hf
  clear h hf
  go_enter Tryd.func3, Tryd.ntmps3
  go_wp2_with (first
    | (go_at_call 7; refine (aliveC _ HTC.out).mono ?_; rintro e w4 ⟨rfl, hb4⟩)
    | (go_at_call 8; refine (CC.out _ (xtab_below HT.out V2.out)).mono ?_; rintro e w3 ⟨A3, c3, rfl, hc, hcc, hb3⟩; have V3 := Aside0.mk ((below_step V2.out hb3).alloc (below_step V2.out hb3).size (.cells #[.int .i64 f1, .int .i64 f2] 26)); have K1c := Aside0.mk (blk_alloc (blk_below K1b.out hb3) (.cells #[.int .i64 f1, .int .i64 f2] 26)); have K2c := Aside0.mk (blk_alloc (blk_below K2.out hb3) (.cells #[.int .i64 f1, .int .i64 f2] 26)); have K3 := Aside0.mk (blk_new w3 (.cells #[.int .i64 f1, .int .i64 f2] 26)); have RAc := Aside0.mk (Kd.C_below (Kd.C_below RAb.out hb3) ((Below.refl _ w3).alloc (Nat.le_refl _) (.cells #[.int .i64 f1, .int .i64 f2] 26))); have RBc := Aside0.mk (Kd.C_below (Kd.C_below RB.out hb3) ((Below.refl _ w3).alloc (Nat.le_refl _) (.cells #[.int .i64 f1, .int .i64 f2] 26))); have RC := Aside0.mk (Kd.C_below hc ((Below.refl _ w3).alloc (Nat.le_refl _) (.cells #[.int .i64 f1, .int .i64 f2] 26))); have HCC := Aside0.mk hcc; have HTC := Aside0.mk (xtab_below HT.out V3.out); clear hb3 hc hcc; have hF0 := (blk_cell K1c.out 0); have hF1 := (blk_cell K1c.out 1); have hG0 := (blk_cell K2c.out 0); have hG1 := (blk_cell K2c.out 1); simp only [List.getElem?_toArray, List.getElem?_cons_zero, List.getElem?_cons_succ] at hF0 hF1 hG0 hG1)
    | (go_at_call 8; refine (CB.out _ (xtab_below HT.out V1.out)).mono ?_; rintro e w2 ⟨A2, c2, rfl, hb, hcb, hb2⟩; have V2 := Aside0.mk ((below_step V1.out hb2).alloc (below_step V1.out hb2).size (.cells #[.int .i64 g1, .int .i64 g2] 26)); have K1b := Aside0.mk (blk_alloc (blk_below K1.out hb2) (.cells #[.int .i64 g1, .int .i64 g2] 26)); have K2 := Aside0.mk (blk_new w2 (.cells #[.int .i64 g1, .int .i64 g2] 26)); have RAb := Aside0.mk (Kd.C_below (Kd.C_below RA.out hb2) ((Below.refl _ w2).alloc (Nat.le_refl _) (.cells #[.int .i64 g1, .int .i64 g2] 26))); have RB := Aside0.mk (Kd.C_below hb ((Below.refl _ w2).alloc (Nat.le_refl _) (.cells #[.int .i64 g1, .int .i64 g2] 26))); have HCB := Aside0.mk hcb; clear hb2 hb hcb)
    | (go_at_call 8; refine (CA.out _ HT.out).mono ?_; rintro e w1 ⟨A1, c1, rfl, ha, hca, hb1⟩; have V1 := Aside0.mk (hb1.alloc hb1.size (.cells #[.int .i64 f1, .int .i64 f2] 26)); have K1 := Aside0.mk (blk_new w1 (.cells #[.int .i64 f1, .int .i64 f2] 26)); have RA := Aside0.mk (Kd.C_below ha ((Below.refl _ w1).alloc (Nat.le_refl _) (.cells #[.int .i64 f1, .int .i64 f2] 26))); have HCA := Aside0.mk hca; clear hb1 ha hca))
  go_ret
  exact ⟨rfl, below_step V3.out hb4⟩

set_option maxHeartbeats 1000000 in
set_option maxRecDepth 100000 in
/-- The second text is refused. -/
theorem both_second (s t : ByteArray) (w : World) (hT : XTab w) (h : s.size + t.size ≤ 60000) (a b c : List S31) (g1 g2 : Int)
    (ha : readL (s.data.toList ++ [10]) = (a, 0, 0)) (hb : readL t.data.toList = (b, g1, g2)) (hc : readL (s.data.toList ++ [10] ++ t.data.toList) = (c, g1, g2 + (a.length : Nat))) (hg : g1 ≠ 0) (hn : a.length ≤ 60001) (h0 : 0 ≤ g2) (h1 : g2 ≤ 60001) :
    Calls Tryd.prog 3 #[.string s, .string t] w fun e w' => e = .returned (.bool true) ∧ Below w.heap.size w w' := by
  have ca := readC (s ++ (⟨#[10]⟩ : ByteArray)) a 0 0 (by rw [ByteArray.data_append, Array.toList_append]; exact ha)
  have cb := readC t b g1 g2 hb
  have cc := readC (s ++ (⟨#[10]⟩ : ByteArray) ++ t) c g1 (g2 + (a.length : Nat)) (by rw [ByteArray.data_append, ByteArray.data_append, Array.toList_append, Array.toList_append]; exact hc)
  have HT := Aside0.mk hT
  have CA := Aside0.mk ca
  have CB := Aside0.mk cb
  have CC := Aside0.mk cc
  clear hT ca cb cc ha hb hc
  have hs1 : s.size ≤ 60000 := by omega
  have ht1 : t.size ≤ 60000 := by omega
  have d1 : decide (60000 < (s.size : Int) + (t.size : Int)) = false := decide_eq_false (by omega)
  have d2 : decide (60000 < s.size + t.size) = false := decide_eq_false (by omega)
  have e1 : (g1 == 0) = false := beq_eq_false_iff_ne.mpr hg
  have hw : wrap64 (g2 + (a.length : Int)) = g2 + (a.length : Int) := by unfold wrap64; omega
  clear h hg
  go_enter Tryd.func3, Tryd.ntmps3
  go_wp2_with (first
    | (go_at_call 7; refine (aliveC _ HTC.out).mono ?_; rintro e w4 ⟨rfl, hb4⟩)
    | (go_at_call 8; refine (CC.out _ (xtab_below HT.out V2.out)).mono ?_; rintro e w3 ⟨A3, c3, rfl, hc, hcc, hb3⟩; have V3 := Aside0.mk ((below_step V2.out hb3).alloc (below_step V2.out hb3).size (.cells #[.int .i64 g1, .int .i64 (g2 + (a.length : Nat))] 26)); have K1c := Aside0.mk (blk_alloc (blk_below K1b.out hb3) (.cells #[.int .i64 g1, .int .i64 (g2 + (a.length : Nat))] 26)); have K2c := Aside0.mk (blk_alloc (blk_below K2.out hb3) (.cells #[.int .i64 g1, .int .i64 (g2 + (a.length : Nat))] 26)); have K3 := Aside0.mk (blk_new w3 (.cells #[.int .i64 g1, .int .i64 (g2 + (a.length : Nat))] 26)); have RAc := Aside0.mk (Kd.C_below (Kd.C_below RAb.out hb3) ((Below.refl _ w3).alloc (Nat.le_refl _) (.cells #[.int .i64 g1, .int .i64 (g2 + (a.length : Nat))] 26))); have RBc := Aside0.mk (Kd.C_below (Kd.C_below RB.out hb3) ((Below.refl _ w3).alloc (Nat.le_refl _) (.cells #[.int .i64 g1, .int .i64 (g2 + (a.length : Nat))] 26))); have RC := Aside0.mk (Kd.C_below hc ((Below.refl _ w3).alloc (Nat.le_refl _) (.cells #[.int .i64 g1, .int .i64 (g2 + (a.length : Nat))] 26))); have HCC := Aside0.mk hcc; have HTC := Aside0.mk (xtab_below HT.out V3.out); clear hb3 hc hcc; have hF0 := (blk_cell K1c.out 0); have hF1 := (blk_cell K1c.out 1); have hG0 := (blk_cell K2c.out 0); have hG1 := (blk_cell K2c.out 1); simp only [List.getElem?_toArray, List.getElem?_cons_zero, List.getElem?_cons_succ] at hF0 hF1 hG0 hG1)
    | (go_at_call 8; refine (CB.out _ (xtab_below HT.out V1.out)).mono ?_; rintro e w2 ⟨A2, c2, rfl, hb, hcb, hb2⟩; have V2 := Aside0.mk ((below_step V1.out hb2).alloc (below_step V1.out hb2).size (.cells #[.int .i64 g1, .int .i64 g2] 26)); have K1b := Aside0.mk (blk_alloc (blk_below K1.out hb2) (.cells #[.int .i64 g1, .int .i64 g2] 26)); have K2 := Aside0.mk (blk_new w2 (.cells #[.int .i64 g1, .int .i64 g2] 26)); have RAb := Aside0.mk (Kd.C_below (Kd.C_below RA.out hb2) ((Below.refl _ w2).alloc (Nat.le_refl _) (.cells #[.int .i64 g1, .int .i64 g2] 26))); have RB := Aside0.mk (Kd.C_below hb ((Below.refl _ w2).alloc (Nat.le_refl _) (.cells #[.int .i64 g1, .int .i64 g2] 26))); have HCB := Aside0.mk hcb; clear hb2 hb hcb)
    | (go_at_call 8; refine (CA.out _ HT.out).mono ?_; rintro e w1 ⟨A1, c1, rfl, ha, hca, hb1⟩; have V1 := Aside0.mk (hb1.alloc hb1.size (.cells #[.int .i64 0, .int .i64 0] 26)); have K1 := Aside0.mk (blk_new w1 (.cells #[.int .i64 0, .int .i64 0] 26)); have RA := Aside0.mk (Kd.C_below ha ((Below.refl _ w1).alloc (Nat.le_refl _) (.cells #[.int .i64 0, .int .i64 0] 26))); have HCA := Aside0.mk hca; clear hb1 ha hca))
  all_goals
    go_ret
    exact ⟨rfl, below_step V3.out hb4⟩

theorem take_C {w : World} {A : Option Addr} {a c : List S31} (h : Kd.C k31 w A c.length c) (e : c.take a.length = a) (hl : a.length ≤ c.length) : Kd.C k31 w A a.length a := by
  have := Kd.C_take h hl
  rw [e] at this
  exact this
theorem equal_self_l0 (l : List S31) (hl : l.length ≤ 4398046510976) : ∀ d i, i + d = l.length → ∀ k, d + 1 ≤ k → api_Row.l0 k l l (l.length : Int) (i : Int) = some true
  | 0, i, hi, k, hk => by
    obtain ⟨k, rfl⟩ : ∃ k', k = k' + 1 := ⟨k - 1, by omega⟩
    simp only [api_Row.l0]
    rw [if_neg (by omega)]
  | d + 1, i, hi, k, hk => by
    obtain ⟨k, rfl⟩ : ∃ k', k = k' + 1 := ⟨k - 1, by omega⟩
    simp only [api_Row.l0]
    rw [if_pos (by omega), if_pos (by omega), if_pos (by omega), if_pos (by omega), if_neg (by simp), show ((i : Int) + 1) = ((i + 1 : Nat) : Int) by omega, wrap_small _ (by omega)]
    exact equal_self_l0 l hl d (i + 1) (by omega) k (by omega)
theorem rowsSame_self (l : List S31) (hl : l.length ≤ 4398046510976) (k : Nat) (hk : l.length + 1 ≤ k) : rows_Same.f k l l = some true := by
  unfold rows_Same.f api_Row.f
  have e : api_Row.l0 k l l (l.length : Int) 0 = some true := equal_self_l0 l hl l.length 0 (by omega) k hk
  rw [if_pos rfl, e]
  rfl
set_option maxHeartbeats 1000000 in
set_option maxRecDepth 100000 in
/-- Both texts are read. -/
theorem both_fine (s t : ByteArray) (w : World) (hT : XTab w) (h : s.size + t.size ≤ 60000) (a b c : List S31)
    (ha : readL (s.data.toList ++ [10]) = (a, 0, 0)) (hb : readL t.data.toList = (b, 0, 0)) (hc : readL (s.data.toList ++ [10] ++ t.data.toList) = (c, 0, 0)) (hn : a.length ≤ 60001) (hm : b.length ≤ 60001) (hl : c.length = a.length + b.length) (hta : c.take a.length = a)
    (hat : ∀ i : Nat, i < b.length → (rd_T31 c ((a.length + i : Nat) : Int)).f0 = (rd_T31 b i).f0 ∧ (rd_T31 c ((a.length + i : Nat) : Int)).f1 = (rd_T31 b i).f1 ∧ (rd_T31 c ((a.length + i : Nat) : Int)).f2 = (rd_T31 b i).f2 + (a.length : Int) ∧ 0 ≤ (rd_T31 b i).f2 ∧ (rd_T31 b i).f2 ≤ 60001) :
    Calls Tryd.prog 3 #[.string s, .string t] w fun e w' => e = .returned (.bool true) ∧ Below w.heap.size w w' := by
  have ca := readC (s ++ (⟨#[10]⟩ : ByteArray)) a 0 0 (by rw [ByteArray.data_append, Array.toList_append]; exact ha)
  have cb := readC t b 0 0 hb
  have cc := readC (s ++ (⟨#[10]⟩ : ByteArray) ++ t) c 0 0 (by rw [ByteArray.data_append, ByteArray.data_append, Array.toList_append, Array.toList_append]; exact hc)
  have HT := Aside0.mk hT
  have CA := Aside0.mk ca
  have CB := Aside0.mk cb
  have CC := Aside0.mk cc
  have HTA := Aside0.mk hta
  have HAT := Aside0.mk hat
  have HL := Aside0.mk hl
  clear hT ca cb cc ha hb hc hta hat
  have hs1 : s.size ≤ 60000 := by omega
  have ht1 : t.size ≤ 60000 := by omega
  have d1 : decide (60000 < (s.size : Int) + (t.size : Int)) = false := decide_eq_false (by omega)
  have d2 : decide (60000 < s.size + t.size) = false := decide_eq_false (by omega)
  have hlc : (c.length : Int) = (a.length : Int) + (b.length : Int) := by omega
  clear h hl
  go_enter Tryd.func3, Tryd.ntmps3
  go_wp2_with (first
    | (go_at_call 9; refine (rows_Same.calls 70000 A3 c3 a A1 c1 a true _ (Kd.C_below SA.out (by repeat (first | exact Below.refl _ _ | apply pw_below_drewN))) hac (Kd.C_below RAc.out (by repeat (first | exact Below.refl _ _ | apply pw_below_drewN))) HCA.out (rowsSame_self a (by omega) 70000 (by omega))).mono ?_; rintro e w5 ⟨rfl, ⟨nd, rfl⟩⟩)
    | (go_at_call 7; refine (aliveC _ HTC.out).mono ?_; rintro e w4 ⟨rfl, hb4⟩)
    | (go_at_call 8; refine (CC.out _ (xtab_below HT.out V2.out)).mono ?_; rintro e w3 ⟨A3, c3, rfl, hc, hcc, hb3⟩; have V3 := Aside0.mk ((below_step V2.out hb3).alloc (below_step V2.out hb3).size (.cells #[.int .i64 0, .int .i64 0] 26)); have K1c := Aside0.mk (blk_alloc (blk_below K1b.out hb3) (.cells #[.int .i64 0, .int .i64 0] 26)); have K2c := Aside0.mk (blk_alloc (blk_below K2.out hb3) (.cells #[.int .i64 0, .int .i64 0] 26)); have K3 := Aside0.mk (blk_new w3 (.cells #[.int .i64 0, .int .i64 0] 26)); have RAc := Aside0.mk (Kd.C_below (Kd.C_below RAb.out hb3) ((Below.refl _ w3).alloc (Nat.le_refl _) (.cells #[.int .i64 0, .int .i64 0] 26))); have RBc := Aside0.mk (Kd.C_below (Kd.C_below RB.out hb3) ((Below.refl _ w3).alloc (Nat.le_refl _) (.cells #[.int .i64 0, .int .i64 0] 26))); have RC := Aside0.mk (Kd.C_below hc ((Below.refl _ w3).alloc (Nat.le_refl _) (.cells #[.int .i64 0, .int .i64 0] 26))); have HCC := Aside0.mk hcc; have hac : a.length ≤ c3 := (by have h1_ := HL.out; have h2_ := HCC.out; omega); have SA := Aside0.mk (show Kd.C k31 _ A3 a.length a from take_C RC.out HTA.out (by have h1_ := HL.out; omega)); have HTC := Aside0.mk (xtab_below HT.out V3.out); clear hb3 hc hcc; have hF0 := (blk_cell K1c.out 0); have hF1 := (blk_cell K1c.out 1); have hG0 := (blk_cell K2c.out 0); have hG1 := (blk_cell K2c.out 1); simp only [List.getElem?_toArray, List.getElem?_cons_zero, List.getElem?_cons_succ] at hF0 hF1 hG0 hG1)
    | (go_at_call 8; refine (CB.out _ (xtab_below HT.out V1.out)).mono ?_; rintro e w2 ⟨A2, c2, rfl, hb, hcb, hb2⟩; have V2 := Aside0.mk ((below_step V1.out hb2).alloc (below_step V1.out hb2).size (.cells #[.int .i64 0, .int .i64 0] 26)); have K1b := Aside0.mk (blk_alloc (blk_below K1.out hb2) (.cells #[.int .i64 0, .int .i64 0] 26)); have K2 := Aside0.mk (blk_new w2 (.cells #[.int .i64 0, .int .i64 0] 26)); have RAb := Aside0.mk (Kd.C_below (Kd.C_below RA.out hb2) ((Below.refl _ w2).alloc (Nat.le_refl _) (.cells #[.int .i64 0, .int .i64 0] 26))); have RB := Aside0.mk (Kd.C_below hb ((Below.refl _ w2).alloc (Nat.le_refl _) (.cells #[.int .i64 0, .int .i64 0] 26))); have HCB := Aside0.mk hcb; clear hb2 hb hcb)
    | (go_at_call 8; refine (CA.out _ HT.out).mono ?_; rintro e w1 ⟨A1, c1, rfl, ha, hca, hb1⟩; have V1 := Aside0.mk (hb1.alloc hb1.size (.cells #[.int .i64 0, .int .i64 0] 26)); have K1 := Aside0.mk (blk_new w1 (.cells #[.int .i64 0, .int .i64 0] 26)); have RA := Aside0.mk (Kd.C_below ha ((Below.refl _ w1).alloc (Nat.le_refl _) (.cells #[.int .i64 0, .int .i64 0] 26))); have HCA := Aside0.mk hca; clear hb1 ha hca))
  have HBS := Aside0.mk (show Below w.heap.size w _ from pw_below_drewN V3.out nd)
  have RB0 := Aside0.mk (Kd.C_below RBc.out (pw_below_drewN (Below.refl _ _) nd))
  have RC0 := Aside0.mk (Kd.C_below RC.out (pw_below_drewN (Below.refl _ _) nd))
  obtain ⟨V, hV⟩ : ∃ V, (w3.alloc (.cells #[.int .i64 0, .int .i64 0] 26)).drewN nd = V := ⟨_, rfl⟩
  rw [hV] at HBS RB0 RC0 ⊢
  clear hV K1c K2c K3 hF0 hF1 hG0 hG1 V1 V2 V3 RA RAb RAc RB RBc RC SA K1 K1b K2 HTC hlc HCA HCB HCC hac
  go_loopg [89] b.length (fun k v89 w' => ∃ i : Nat, v89 = .int .i64 i ∧ Aside0 (b.length = i + k) ∧ Aside0 (Below V.heap.size V w'))
  case atStart => exact ⟨0, rfl, ⟨by omega⟩, ⟨Below.refl _ _⟩⟩
  case round =>
    obtain ⟨i, rfl, HK, HB⟩ := hrel
    cases gk with
    | zero =>
      have hlt : ¬ i < b.length := by have := HK.out; omega
      have hbW := Aside0.mk (below_then HBS.out HBS.out.size HB.out)
      go_wp2_with (go_at_call 7; refine (aliveC _ (xtab_below HT.out hbW.out)).mono ?_; rintro e w4 ⟨rfl, hb4⟩)
      go_ret
      exact ⟨rfl, below_step hbW.out hb4⟩
    | succ k1 =>
      have hlt : i < b.length := by have := HK.out; omega
      have hlc : a.length + i < c.length := by have := HL.out; omega
      obtain ⟨h0, h1, h2, h3, h4⟩ := HAT.out i hlt
      obtain ⟨adb, rfl, hx0, hx1, hx2⟩ := at_T31 RB0.out (i : Int) (by omega) (by omega)
      obtain ⟨adc, rfl, hy0, hy1, hy2⟩ := at_T31 RC0.out ((a.length + i : Nat) : Int) (by omega) (by omega)
      have hB1 : Below V.heap.size V (wr.alloc (.cells #[.int .i64 (rd_T31 b i).f0, .string (rd_T31 b i).f1, .int .i64 (rd_T31 b i).f2] 31)) := HB.out.alloc HB.out.size _
      replace hx0 := (HB.out.cell (World.block_lt_of_cell? V _ hx0)).trans hx0
      replace hx1 := (HB.out.cell (World.block_lt_of_cell? V _ hx1)).trans hx1
      replace hx2 := (HB.out.cell (World.block_lt_of_cell? V _ hx2)).trans hx2
      replace hy0 := (hB1.cell (World.block_lt_of_cell? V _ hy0)).trans hy0
      replace hy1 := (hB1.cell (World.block_lt_of_cell? V _ hy1)).trans hy1
      replace hy2 := (hB1.cell (World.block_lt_of_cell? V _ hy2)).trans hy2
      rw [Int.toNat_natCast] at hx0 hx1 hx2 hy0 hy1 hy2
      rw [h0] at hy0
      rw [h1] at hy1
      rw [h2] at hy2
      have hw : wrap64 ((rd_T31 b i).f2 + (a.length : Int)) = (rd_T31 b i).f2 + (a.length : Int) := by unfold wrap64; omega
      have hB2 := Aside0.mk (hB1.alloc hB1.size (.cells #[.int .i64 (rd_T31 b i).f0, .string (rd_T31 b i).f1, .int .i64 ((rd_T31 b i).f2 + (a.length : Int))] 31))
      clear h0 h1 h2 h3 h4 hB1
      go_wp2
      go_roundg k1
      case measure => omega
      case rel => exact ⟨i + 1, by go_num, ⟨by have := HK.out; omega⟩, hB2⟩

theorem rd_left (a b : List S31) (n : Nat) (hn : n = a.length) (i : Nat) (h : i < b.length) : rd_T31 (a ++ b.map (shiftR n)) ((n + i : Nat) : Int) = shiftR n (rd_T31 b (i : Int)) := by
  unfold rd_T31
  simp only [Int.toNat_natCast, List.getD_eq_getElem?_getD]
  rw [List.getElem?_append_right (by omega), show n + i - a.length = i by omega, List.getElem?_map, List.getElem?_eq_getElem h]
  rfl
theorem rowsBoth_walk (s t : ByteArray) (w : World) (hT : XTab w) (hs : s.size ≤ 140737488351232) (ht : t.size ≤ 140737488351232) :
    Calls Tryd.prog 3 #[.string s, .string t] w fun e w' => e = .returned (.bool true) ∧ Below w.heap.size w w' := by
  by_cases h : 60000 < s.size + t.size
  · exact both_big s t w hT hs ht h
  · have h0 : s.data.toList.length + t.data.toList.length ≤ 60000 := by rw [← size_len, ← size_len]; omega
    rcases both_cases s.data.toList t.data.toList h0 with ⟨e, at_, h1, h2, h3⟩ | ⟨a, e, at_, h1, h2, h3, h4, h5, h6, h7⟩ | ⟨a, b, h1, h2, h3, h4, h5, h6⟩
    · exact both_first s t w hT (by omega) [] _ [] e at_ _ _ h1 rfl h3 h2
    · exact both_second s t w hT (by omega) a [] [] e at_ h1 h2 h4 h3 h5 h6 h7
    · refine both_fine s t w hT (by omega) a b _ h1 h2 h3 h4 h5 (by simp) (by simp) (fun i hi => ?_)
      rw [rd_left a b a.length rfl i hi]
      have hm : rd_T31 b (i : Int) ∈ b := by
        unfold rd_T31
        rw [Int.toNat_natCast, List.getD_eq_getElem?_getD, List.getElem?_eq_getElem hi]
        exact List.getElem_mem hi
      exact ⟨rfl, rfl, rfl, h6 _ hm⟩
end Go.Proofs.YtgonkdfednoclaaDoor.PRows
