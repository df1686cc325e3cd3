/- The reference's Put of a number that it has; onto a list that nobody made. -/
import Derived.Test.YtnnebkmjeigflaaRefPut
namespace Go.Proofs.Ytnnebkmjeigflaa.L
open Go.RowKit Go.Maps

theorem fin_nil {w W1 : World} {B rb c : Nat} {ao : Option Addr} {L : List (Int × Int)} {id till : Int} (h : RefQ w B rb ao c L) (hB : B ≤ w.heap.size) (hm : without L id = []) (h0 : putRes L id = 0) (hb : Below w.heap.size w W1) :
    ∀ r W, W.ownsRow W1.heap.size 75 2 r 1 [.int .i64 id, .int .i64 till] → Below W1.heap.size W1 W → RPuts w B rb ao L id till (.returned (.int .i64 0)) (W.setCell ⟨rb, 0, none⟩ r) := fun r W ho hW => by
  refine ⟨by rw [h0], ?_⟩
  unfold putS
  rw [h0, if_pos rfl, hm]
  exact rwent_store (L' := [(id, till)]) h hB (owns_base ho hb.size) (by simp) (hb.trans (hW.mono hb.size))
set_option maxHeartbeats 2000000 in
set_option maxRecDepth 100000 in
theorem rput_none (B rb c : Nat) (L : List (Int × Int)) (id till : Int) (h1 : 1 ≤ id) (w : World) (h : RefQ w B rb none c L) (hB : B ≤ w.heap.size) :
    Calls Try.prog 32 #[.pointer (some ⟨rb, 0, none⟩), .int .i64 id, .int .i64 till] w (RPuts w B rb none L id till) := by
  obtain ⟨i0, hi0, hz0, hz1, hz2⟩ := info_parts info75
  obtain ⟨hl, rfl⟩ := h.empty rfl
  obtain rfl : L = [] := List.length_eq_zero_iff.1 hl
  have hc0 : w.cell? ⟨rb, 0, none⟩ = some (.slice none 0 0) := h.c0
  have c1 := fun W hb => find_out B rb _ 0 [] id (fun p hp => by cases hp) W (h.past hb)
  have c2 := fun W => without_neg (.slice none 0 0) W
  have h1' : ¬ id < 1 := by omega
  have hp0 : putRes [] id = 0 := by unfold putRes; rw [if_neg h1', known_out (fun p hp => by cases hp), if_neg (by decide), if_pos (by decide)]
  have hbd : Below w.heap.size w (w.drewN 1) := below_drewN (Below.refl _ _) 1
  have HE0 : Box (∀ r W, W.ownsRow (w.drewN 1).heap.size 75 2 r 1 [.int .i64 id, .int .i64 till] → Below (w.drewN 1).heap.size (w.drewN 1) W → RPuts w B rb none [] id till (.returned (.int .i64 0)) (W.setCell ⟨rb, 0, none⟩ r)) := ⟨fin_nil h hB rfl hp0 hbd⟩
  have HQ : Box (∀ W, Below (w.drewN 1).heap.size (w.drewN 1) W → W.heap[rb]? = some (.cells #[.slice none 0 0] 35 (0, 0))) := ⟨fun W hb => (hb.block rb (lt_of_block h.q)).trans h.q⟩
  clear h hl hp0
  go_enter Try.func32, Try.ntmps32
  go_wp2_with fail
  go_region_with (first | (go_at_call 33; refine (c1 _ (below_drewN (Below.refl _ _) _)).mono ?_; rintro e w1 ⟨rfl, rfl⟩) | (go_at_call 42; refine (c2 _).mono ?_; rintro e w1 ⟨rfl, rfl⟩))
  all_goals
    generalize w.drewN 1 = wr at *
    go_wp2_with fail
    refine wp_loop_rounds 1 ?_
    rw [rounds_succ]
    go_wp2_with fail
    go_region_law (first | (refine step_append_any _ rfl (.const (.slice none 0 0)) (.tmp 58) 33 rfl wr.heap.size 75 i0 _ 2 16 Try.underlying33 hi0 hz0 hz1 hz2 rfl (by decide) (.slice none 0 0) 0 [] rfl (World.ownsRow_nil _ _ _ _) none 0 0 [] (by simp [Act.eval, Act.put]) rfl (fun _ => ⟨rfl, rfl⟩) (fun ad e => by cases e) (fun u hu => by cases hu) (by unfold maxLen; omega) (by omega) (by simp) ?_; intro v1 w1 ho1 hg1; have hb1 : Below wr.heap.size wr w1 := (by first | exact (Below.refl _ _).drew.grown hg1 (Nat.le_refl _) (fun k hk => by simp [Value.ownBlock] at hk) | exact ((Below.refl _ _).drew.alloc (Nat.le_refl _) _).grown hg1 (by simp) (fun k hk => by simp [Value.ownBlock] at hk))) | (refine step_append_any _ rfl (.tmp 59) (.tmp 63) 33 rfl wr.heap.size 75 i0 _ 2 16 Try.underlying33 hi0 hz0 hz1 hz2 rfl (by decide) v1 0 [] (by simp [Act.eval]) (by first | exact ho1 | exact ho1.alloc _) _ 1 1 [.int .i64 id, .int .i64 till] rfl rfl (fun e => by cases e) (by intro ad e i u hu; injection e with e; subst e; first | exact World.news_of_block (new_block _ _) i u hu | exact World.news_of_block ((hg1.block wr.heap.size (by simp) (by simp [Value.ownBlock])).trans (new_block _ _)) i u hu) (by simp [Value.oneCell']) (by unfold maxLen; omega) (by omega) (by first | exact hb1.size | (rw [World.size_alloc]; have := hb1.size; omega)) ?_; intro v2 w2 ho2 hg2; have hb2 : Below wr.heap.size wr w2 := (by first | exact hb1.grown hg2 hb1.size (fun k hk => (ho1.lt k hk).1) | exact (hb1.alloc hb1.size _).grown hg2 (by rw [World.size_alloc]; have := hb1.size; omega) (fun k hk => (ho1.lt k hk).1))) | (refine step_append_any _ rfl (.tmp 64) (.tmp 67) 33 rfl wr.heap.size 75 i0 _ 2 16 Try.underlying33 hi0 hz0 hz1 hz2 rfl (by decide) v2 1 [.int .i64 id, .int .i64 till] (by simp [Act.eval]) ho2 none 0 0 [] (by simp [Act.eval]) rfl (fun _ => ⟨rfl, rfl⟩) (fun ad e => by cases e) (fun u hu => by cases hu) (by unfold maxLen; omega) (by omega) hb2.size ?_; intro v3 w3 ho3 hg3; have hb3 : Below wr.heap.size wr w3 := hb2.grown hg3 hb2.size (fun k hk => (ho2.lt k hk).1); obtain ⟨ao4, c4, rfl⟩ := owns_slice ho3; have hq3 := HQ.out _ hb3; have hff := free_of hq3 0; have hcc : w3.cell? ⟨rb, 0, none⟩ = some (.slice none 0 0) := (cell_of hq3 0).trans rfl; have HE := Box.mk (HE0.out _ _ ho3 hb3); clear ho3 hg3 hq3))
    all_goals
      go_wp2
      go_ret
      exact HE.out
set_option maxHeartbeats 4000000 in
set_option maxRecDepth 100000 in
theorem rput_old (B rb : Nat) (ao : Option Addr) (c : Nat) (L : List (Int × Int)) (hA : ApartKV L) (i : Nat) (hi : i < L.length) (till : Int) (h1 : 1 ≤ L[i].1) (w : World) (h : RefQ w B rb ao c L) (hB : B ≤ w.heap.size) :
    Calls Try.prog 32 #[.pointer (some ⟨rb, 0, none⟩), .int .i64 L[i].1, .int .i64 till] w (RPuts w B rb ao L L[i].1 till) := by
  obtain ⟨i0, hi0, hz0, hz1, hz2⟩ := info_parts info75
  have hc0 := h.c0
  have c1 := fun W hb => find_in B rb ao c L hA i hi W (h.past hb)
  have c2 := fun W hb => without_calls ao c L i W (h.past hb).rowL hi
  have h1' : ¬ L[i].1 < 1 := by omega
  have hko := known_at i hi
  have hw := without_at hA i hi
  have hp0 : putRes L L[i].1 = 0 := by unfold putRes; rw [if_neg h1', hko, if_pos rfl]
  have hMl : (L.take i ++ L.drop (i + 1)).length < 1024 := by rw [List.length_append, List.length_take, List.length_drop]; have := h.few; omega
  rw [← hw] at c2 hMl
  obtain ⟨n, hnl⟩ : ∃ n, L.length = n := ⟨_, rfl⟩
  have hq := h.q
  rw [hnl] at hc0 c2 hq
  have hP := fun w2 g off c2 hb hr => AtPut.of (w := w) (W1 := w2) (g := g) (off := off) (c2 := c2) (till := till) h hB hb hr rfl hMl hp0
  rw [hnl] at hP
  have hF := fun w2 hm hb => fin_nil (w := w) (W1 := w2) (till := till) h hB hm hp0 hb
  generalize L[i].1 = id at *
  obtain ⟨M, hM⟩ : ∃ M, without L id = M := ⟨_, rfl⟩
  rw [hM] at c2 hP hF hMl
  obtain ⟨m, hm⟩ : ∃ m, M.length = m := ⟨_, rfl⟩
  have HP0 := Box.mk hP
  have HF0 := Box.mk hF
  have HLQ := Box.mk hq
  have hm1 : (m : Int) < 1024 := by omega
  have hm24 : m < 1024 := by omega
  have HMN := Box.mk hm
  clear h hnl hM hm hw hko hp0 hP hF hA hq
  go_enter Try.func32, Try.ntmps32
  go_wp2_with fail
  go_region_with (first | (go_at_call 33; refine (c1 _ (below_drewN (Below.refl _ _) _)).mono ?_; rintro e w1 ⟨rfl, rfl⟩) | (go_at_call 42; refine (c2 _ (below_drewN (Below.refl _ _) _)).mono ?_; rintro e W1 ⟨r, rfl, ho, hb⟩; obtain ⟨ao2, cc2, rfl, hrl, hlt⟩ := rowL_own ho (Nat.le_of_lt hMl); rw [HMN.out]; have HRL := Box.mk hrl; have HBW : Box (Below w.heap.size w W1) := (Box.mk ((below_drewN (Below.refl _ _) _).trans hb)); clear ho hb hrl hlt))
  all_goals
    have hm2 := hm1
    cases ao2 with
    | none =>
      obtain ⟨hl0, rfl⟩ := HRL.out.empty rfl
      obtain rfl : m = 0 := by have := HMN.out; omega
      have hM0 : M = [] := List.length_eq_zero_iff.1 hl0
      have HE0 := Box.mk (HF0.out W1 hM0 HBW.out)
      have HQ : Box (∀ W, Below W1.heap.size W1 W → W.heap[rb]? = some (.cells #[.slice ao n c] 35 (0, 0))) := ⟨fun W hb => by
        have hlt : rb < w.heap.size := lt_of_block HLQ.out
        exact ((hb.block rb (by have := HBW.out.size; omega)).trans (HBW.out.block rb hlt)).trans HLQ.out⟩
      clear HP0 HF0 HLQ hl0 hM0 HMN HRL
      generalize W1 = wr at *
      go_wp2_with fail
      refine wp_loop_rounds 1 ?_
      rw [rounds_succ]
      go_wp2_with fail
      go_region_law (first | (refine step_append_any _ rfl (.const (.slice none 0 0)) (.tmp 58) 33 rfl wr.heap.size 75 i0 _ 2 16 Try.underlying33 hi0 hz0 hz1 hz2 rfl (by decide) (.slice none 0 0) 0 [] rfl (World.ownsRow_nil _ _ _ _) none 0 0 [] (by simp [Act.eval, Act.put]) rfl (fun _ => ⟨rfl, rfl⟩) (fun ad e => by cases e) (fun u hu => by cases hu) (by unfold maxLen; omega) (by omega) (by simp) ?_; intro v1 w1 ho1 hg1; have hb1 : Below wr.heap.size wr w1 := (by first | exact (Below.refl _ _).drew.grown hg1 (Nat.le_refl _) (fun k hk => by simp [Value.ownBlock] at hk) | exact ((Below.refl _ _).drew.alloc (Nat.le_refl _) _).grown hg1 (by simp) (fun k hk => by simp [Value.ownBlock] at hk))) | (refine step_append_any _ rfl (.tmp 59) (.tmp 63) 33 rfl wr.heap.size 75 i0 _ 2 16 Try.underlying33 hi0 hz0 hz1 hz2 rfl (by decide) v1 0 [] (by simp [Act.eval]) (by first | exact ho1 | exact ho1.alloc _) _ 1 1 [.int .i64 id, .int .i64 till] rfl rfl (fun e => by cases e) (by intro ad e i u hu; injection e with e; subst e; first | exact World.news_of_block (new_block _ _) i u hu | exact World.news_of_block ((hg1.block wr.heap.size (by simp) (by simp [Value.ownBlock])).trans (new_block _ _)) i u hu) (by simp [Value.oneCell']) (by unfold maxLen; omega) (by omega) (by first | exact hb1.size | (rw [World.size_alloc]; have := hb1.size; omega)) ?_; intro v2 w2 ho2 hg2; have hb2 : Below wr.heap.size wr w2 := (by first | exact hb1.grown hg2 hb1.size (fun k hk => (ho1.lt k hk).1) | exact (hb1.alloc hb1.size _).grown hg2 (by rw [World.size_alloc]; have := hb1.size; omega) (fun k hk => (ho1.lt k hk).1))) | (refine step_append_any _ rfl (.tmp 64) (.tmp 67) 33 rfl wr.heap.size 75 i0 _ 2 16 Try.underlying33 hi0 hz0 hz1 hz2 rfl (by decide) v2 1 [.int .i64 id, .int .i64 till] (by simp [Act.eval]) ho2 none 0 0 [] (by simp [Act.eval]) rfl (fun _ => ⟨rfl, rfl⟩) (fun ad e => by cases e) (fun u hu => by cases hu) (by unfold maxLen; omega) (by omega) hb2.size ?_; intro v3 w3 ho3 hg3; have hb3 : Below wr.heap.size wr w3 := hb2.grown hg3 hb2.size (fun k hk => (ho2.lt k hk).1); obtain ⟨ao4, c4, rfl⟩ := owns_slice ho3; have hq3 := HQ.out _ hb3; have hff := free_of hq3 0; have hcc : w3.cell? ⟨rb, 0, none⟩ = some (.slice ao n c) := (cell_of hq3 0).trans rfl; have HE := Box.mk (HE0.out _ _ ho3 hb3); clear ho3 hg3 hq3))
      all_goals
        go_wp2
        go_ret
        exact HE.out
    | some a =>
      obtain ⟨g, off, rfl⟩ : ∃ g off, a = ⟨g, off, none⟩ := ⟨_, _, HRL.out.form a rfl⟩
      have HP := HP0.out W1 g off cc2 HBW.out HRL.out
      rw [HMN.out] at HP
      clear HP0 HF0 HLQ HRL HBW
      go_wp2
      go_loopg [8] m (fun k v8 wr => ∃ j : Nat, v8 = .int .i64 j ∧ Box (j + k = m) ∧ Box (∀ i (h : i < M.length), i < j → ltKV M[i] (id, till)) ∧ Box (wr = W1))
      case atStart => exact ⟨0, rfl, ⟨by omega⟩, ⟨fun i h hi => absurd hi (Nat.not_lt_zero _)⟩, ⟨rfl⟩⟩
      case round =>
        obtain ⟨j, rfl, HK, HJ, HW⟩ := hrel
        cases gk with
        | zero =>
          have hlt : ¬ (j : Int) < m := by have := HK.out; omega
          have HOUT : Box (∀ h : j < M.length, ¬ ltKV M[j] (id, till)) := ⟨fun h => by have := HK.out; have := HP.len; omega⟩
          have HP := HP
          go_wp2_with fail
          have HP' := Box.mk (show AtPut w wr B rb ao c n L M g off cc2 m id till by rw [HW.out]; exact HP)
          have hjm : j ≤ m := by have := HK.out; omega
          have hjc : (j : Int) ≤ cc2 := by have := HP'.out.row.le; have := HP'.out.len; omega
          have hjn : (j : Int) ≤ m := by omega
          have hnc : (m : Int) ≤ cc2 := by have := HP'.out.row.le; have := HP'.out.len; omega
          have hN1 : Box (∀ W, Below wr.heap.size wr W → ∀ ad, some (⟨g, off, none⟩ : Addr) = some ad → ∀ i u, (cellsL (M.take j))[i]? = some u → W.cell? (ad.add i) = some u) := ⟨fun W hb ad e i u hu => by
            injection e with e; subst e
            have := (HP'.out.row.of hb).part 0 (M := M.take j) (R := M.drop j) (by simp) (Nat.zero_le _) i u hu
            simpa using this⟩
          have hl1 : Box ((cellsL (M.take j)).length = j * 2) := ⟨by rw [cellsL_length, List.length_take, Nat.min_eq_left (by have := HP'.out.len; omega)]⟩
          have hl2 : Box ((cellsL (M.drop j)).length = (m - j) * 2) := ⟨by rw [cellsL_length, List.length_drop, HP'.out.len]⟩
          have HQ : Box (∀ W, Below wr.heap.size wr W → W.heap[rb]? = some (.cells #[.slice ao n c] 35 (0, 0))) := ⟨fun W hb => by
            have hlt : rb < w.heap.size := lt_of_block HP'.out.block
            exact ((hb.block rb (by have := HP'.out.below.size; omega)).trans (HP'.out.below.block rb hlt)).trans HP'.out.block⟩
          have HE0 : Box (∀ r W, W.ownsRow wr.heap.size 75 2 r (m + 1) (([] ++ cellsL (M.take j)) ++ [.int .i64 id, .int .i64 till] ++ cellsL (M.drop j)) → Below wr.heap.size wr W → RPuts w B rb ao L id till (.returned (.int .i64 0)) (W.setCell ⟨rb, 0, none⟩ r)) := ⟨fun r W ho hb =>
            HP'.out.fin j hjm HJ.out HOUT.out r W (by
              rw [cellsL_append]
              have e : cellsL ((id, till) :: M.drop j) = [.int .i64 id, .int .i64 till] ++ cellsL (M.drop j) := rfl
              rw [e, ← List.append_assoc]
              exact owns_base ho HP'.out.below.size) (HP'.out.below.trans (hb.mono HP'.out.below.size))⟩
          by_cases hc : cc2 = j
          · have hN2 : Box (∀ W, Below wr.heap.size wr W → ∀ ad, some (⟨g, off, none⟩ : Addr) = some ad → ∀ i u, (cellsL (M.drop j))[i]? = some u → W.cell? (ad.add i) = some u) := ⟨fun W hb ad e i u hu => by
              have := (List.getElem?_eq_some_iff.1 hu).1
              have h2 := hl2.out
              omega⟩
            clear HP HP' HJ HOUT
            go_region_law (first | (refine step_append_any _ rfl (.const (.slice none 0 0)) (.tmp 58) 33 rfl wr.heap.size 75 i0 _ 2 16 Try.underlying33 hi0 hz0 hz1 hz2 rfl (by decide) (.slice none 0 0) 0 [] rfl (World.ownsRow_nil _ _ _ _) (some ⟨g, off, none⟩) j cc2 (cellsL (M.take j)) (by simp [Act.eval, Act.put] <;> omega) hl1.out (fun e => by cases e) (hN1.out _ (by first | exact (Below.refl _ _).drew | exact (Below.refl _ _).drew.alloc (Nat.le_refl _) _)) (cellsL_one _) (by unfold maxLen; omega) (by omega) (by simp) ?_; intro v1 w1 ho1 hg1; have hb1 : Below wr.heap.size wr w1 := (by first | exact (Below.refl _ _).drew.grown hg1 (Nat.le_refl _) (fun k hk => by simp [Value.ownBlock] at hk) | exact ((Below.refl _ _).drew.alloc (Nat.le_refl _) _).grown hg1 (by simp) (fun k hk => by simp [Value.ownBlock] at hk))) | (refine step_append_any _ rfl (.tmp 59) (.tmp 63) 33 rfl wr.heap.size 75 i0 _ 2 16 Try.underlying33 hi0 hz0 hz1 hz2 rfl (by decide) v1 (0 + j) ([] ++ cellsL (M.take j)) (by simp [Act.eval]) (by first | exact ho1 | exact ho1.alloc _) _ 1 1 [.int .i64 id, .int .i64 till] rfl rfl (fun e => by cases e) (by intro ad e i u hu; injection e with e; subst e; first | exact World.news_of_block (new_block _ _) i u hu | exact World.news_of_block ((hg1.block wr.heap.size (by simp) (by simp [Value.ownBlock])).trans (new_block _ _)) i u hu) (by simp [Value.oneCell']) (by unfold maxLen; omega) (by omega) (by first | exact hb1.size | (rw [World.size_alloc]; have := hb1.size; omega)) ?_; intro v2 w2 ho2 hg2; have hb2 : Below wr.heap.size wr w2 := (by first | exact hb1.grown hg2 hb1.size (fun k hk => (ho1.lt k hk).1) | exact (hb1.alloc hb1.size _).grown hg2 (by rw [World.size_alloc]; have := hb1.size; omega) (fun k hk => (ho1.lt k hk).1))) | (refine step_append_any _ rfl (.tmp 64) (.tmp 67) 33 rfl wr.heap.size 75 i0 _ 2 16 Try.underlying33 hi0 hz0 hz1 hz2 rfl (by decide) v2 (0 + j + 1) (([] ++ cellsL (M.take j)) ++ [.int .i64 id, .int .i64 till]) (by simp [Act.eval]) ho2 (some ⟨g, off, none⟩) (m - j) 0 (cellsL (M.drop j)) (by simp [Act.eval] <;> omega) hl2.out (fun e => by cases e) (hN2.out _ hb2) (cellsL_one _) (by unfold maxLen; omega) (by omega) hb2.size ?_; intro v3 w3 ho3 hg3; have hb3 : Below wr.heap.size wr w3 := hb2.grown hg3 hb2.size (fun k hk => (ho2.lt k hk).1); have e3 : 0 + j + 1 + (m - j) = m + 1 := (by omega); rw [e3] at ho3; obtain ⟨ao4, c4, rfl⟩ := owns_slice ho3; have hq3 := HQ.out _ hb3; have hff := free_of hq3 0; have hcc : w3.cell? ⟨rb, 0, none⟩ = some (.slice ao n c) := (cell_of hq3 0).trans rfl; have HE := Box.mk (HE0.out _ _ ho3 hb3); clear ho3 hg3 hq3 e3))
            all_goals
              go_wp2
              go_ret
              exact HE.out
          · have hN2 : Box (∀ W, Below wr.heap.size wr W → ∀ ad, some (⟨g, off + j * 2, none⟩ : Addr) = some ad → ∀ i u, (cellsL (M.drop j))[i]? = some u → W.cell? (ad.add i) = some u) := ⟨fun W hb ad e i u hu => by
              injection e with e; subst e
              exact (HP'.out.row.of hb).part j (M := M.drop j) (R := []) (by simp) (by have := HP'.out.len; omega) i u hu⟩
            clear HP HP' HJ HOUT
            go_region_law (first | (refine step_append_any _ rfl (.const (.slice none 0 0)) (.tmp 58) 33 rfl wr.heap.size 75 i0 _ 2 16 Try.underlying33 hi0 hz0 hz1 hz2 rfl (by decide) (.slice none 0 0) 0 [] rfl (World.ownsRow_nil _ _ _ _) (some ⟨g, off, none⟩) j cc2 (cellsL (M.take j)) (by simp [Act.eval, Act.put] <;> omega) hl1.out (fun e => by cases e) (hN1.out _ (by first | exact (Below.refl _ _).drew | exact (Below.refl _ _).drew.alloc (Nat.le_refl _) _)) (cellsL_one _) (by unfold maxLen; omega) (by omega) (by simp) ?_; intro v1 w1 ho1 hg1; have hb1 : Below wr.heap.size wr w1 := (by first | exact (Below.refl _ _).drew.grown hg1 (Nat.le_refl _) (fun k hk => by simp [Value.ownBlock] at hk) | exact ((Below.refl _ _).drew.alloc (Nat.le_refl _) _).grown hg1 (by simp) (fun k hk => by simp [Value.ownBlock] at hk))) | (refine step_append_any _ rfl (.tmp 59) (.tmp 63) 33 rfl wr.heap.size 75 i0 _ 2 16 Try.underlying33 hi0 hz0 hz1 hz2 rfl (by decide) v1 (0 + j) ([] ++ cellsL (M.take j)) (by simp [Act.eval]) (by first | exact ho1 | exact ho1.alloc _) _ 1 1 [.int .i64 id, .int .i64 till] rfl rfl (fun e => by cases e) (by intro ad e i u hu; injection e with e; subst e; first | exact World.news_of_block (new_block _ _) i u hu | exact World.news_of_block ((hg1.block wr.heap.size (by simp) (by simp [Value.ownBlock])).trans (new_block _ _)) i u hu) (by simp [Value.oneCell']) (by unfold maxLen; omega) (by omega) (by first | exact hb1.size | (rw [World.size_alloc]; have := hb1.size; omega)) ?_; intro v2 w2 ho2 hg2; have hb2 : Below wr.heap.size wr w2 := (by first | exact hb1.grown hg2 hb1.size (fun k hk => (ho1.lt k hk).1) | exact (hb1.alloc hb1.size _).grown hg2 (by rw [World.size_alloc]; have := hb1.size; omega) (fun k hk => (ho1.lt k hk).1))) | (refine step_append_any _ rfl (.tmp 64) (.tmp 67) 33 rfl wr.heap.size 75 i0 _ 2 16 Try.underlying33 hi0 hz0 hz1 hz2 rfl (by decide) v2 (0 + j + 1) (([] ++ cellsL (M.take j)) ++ [.int .i64 id, .int .i64 till]) (by simp [Act.eval]) ho2 (some ⟨g, off + j * 2, none⟩) (m - j) (cc2 - j) (cellsL (M.drop j)) (by simp [Act.eval] <;> omega) hl2.out (fun e => by cases e) (hN2.out _ hb2) (cellsL_one _) (by unfold maxLen; omega) (by omega) hb2.size ?_; intro v3 w3 ho3 hg3; have hb3 : Below wr.heap.size wr w3 := hb2.grown hg3 hb2.size (fun k hk => (ho2.lt k hk).1); have e3 : 0 + j + 1 + (m - j) = m + 1 := (by omega); rw [e3] at ho3; obtain ⟨ao4, c4, rfl⟩ := owns_slice ho3; have hq3 := HQ.out _ hb3; have hff := free_of hq3 0; have hcc : w3.cell? ⟨rb, 0, none⟩ = some (.slice ao n c) := (cell_of hq3 0).trans rfl; have HE := Box.mk (HE0.out _ _ ho3 hb3); clear ho3 hg3 hq3 e3))
            all_goals
              go_wp2
              go_ret
              exact HE.out
        | succ k1 =>
          have hlt : (j : Int) < m := by have := HK.out; omega
          have h0 : (0 : Int) ≤ j := by omega
          have hj : j < M.length := by have := HK.out; have := HP.len; omega
          obtain ⟨g', off', e, x1, x2⟩ := (show RowL wr (some ⟨g, off, none⟩) cc2 M by rw [HW.out]; exact HP.row).at j hj
          injection e with e
          injection e with e1 e2
          subst e1 e2
          by_cases ha : M[j].2 < till
          · have HS : Box (ltKV M[j] (id, till)) := ⟨.inl ha⟩
            have HJ2 : Box (∀ i (h : i < M.length), i < j + 1 → ltKV M[i] (id, till)) := ⟨fun i h hi => by
              by_cases e : i = j
              · subst e; exact HS.out
              · exact HJ.out i h (by omega)⟩
            clear HP HJ HS 
            go_wp2
            go_roundg k1
            case measure => omega
            case rel => exact ⟨j + 1, by go_num, ⟨by have := HK.out; omega⟩, HJ2, HW⟩
          · by_cases hb : M[j].2 = till
            · have hb' : (M[j].2 == till) = true := by simpa using hb
              by_cases hd : M[j].1 < id
              · have HS : Box (ltKV M[j] (id, till)) := ⟨.inr ⟨hb, hd⟩⟩
                have HJ2 : Box (∀ i (h : i < M.length), i < j + 1 → ltKV M[i] (id, till)) := ⟨fun i h hi => by
                  by_cases e : i = j
                  · subst e; exact HS.out
                  · exact HJ.out i h (by omega)⟩
                clear HP HJ HS hb
                go_wp2
                go_roundg k1
                case measure => omega
                case rel => exact ⟨j + 1, by go_num, ⟨by have := HK.out; omega⟩, HJ2, HW⟩
              · have HOUT : Box (∀ h : j < M.length, ¬ ltKV M[j] (id, till)) := ⟨fun h => by unfold ltKV; dsimp only; omega⟩
                clear hb
                go_wp2_with fail
                have HP' := Box.mk (show AtPut w wr B rb ao c n L M g off cc2 m id till by rw [HW.out]; exact HP)
                have hjm : j ≤ m := by have := HK.out; omega
                have hjc : (j : Int) ≤ cc2 := by have := HP'.out.row.le; have := HP'.out.len; omega
                have hjn : (j : Int) ≤ m := by omega
                have hnc : (m : Int) ≤ cc2 := by have := HP'.out.row.le; have := HP'.out.len; omega
                have hN1 : Box (∀ W, Below wr.heap.size wr W → ∀ ad, some (⟨g, off, none⟩ : Addr) = some ad → ∀ i u, (cellsL (M.take j))[i]? = some u → W.cell? (ad.add i) = some u) := ⟨fun W hb ad e i u hu => by
                  injection e with e; subst e
                  have := (HP'.out.row.of hb).part 0 (M := M.take j) (R := M.drop j) (by simp) (Nat.zero_le _) i u hu
                  simpa using this⟩
                have hl1 : Box ((cellsL (M.take j)).length = j * 2) := ⟨by rw [cellsL_length, List.length_take, Nat.min_eq_left (by have := HP'.out.len; omega)]⟩
                have hl2 : Box ((cellsL (M.drop j)).length = (m - j) * 2) := ⟨by rw [cellsL_length, List.length_drop, HP'.out.len]⟩
                have HQ : Box (∀ W, Below wr.heap.size wr W → W.heap[rb]? = some (.cells #[.slice ao n c] 35 (0, 0))) := ⟨fun W hb => by
                  have hlt : rb < w.heap.size := lt_of_block HP'.out.block
                  exact ((hb.block rb (by have := HP'.out.below.size; omega)).trans (HP'.out.below.block rb hlt)).trans HP'.out.block⟩
                have HE0 : Box (∀ r W, W.ownsRow wr.heap.size 75 2 r (m + 1) (([] ++ cellsL (M.take j)) ++ [.int .i64 id, .int .i64 till] ++ cellsL (M.drop j)) → Below wr.heap.size wr W → RPuts w B rb ao L id till (.returned (.int .i64 0)) (W.setCell ⟨rb, 0, none⟩ r)) := ⟨fun r W ho hb =>
                  HP'.out.fin j hjm HJ.out HOUT.out r W (by
                    rw [cellsL_append]
                    have e : cellsL ((id, till) :: M.drop j) = [.int .i64 id, .int .i64 till] ++ cellsL (M.drop j) := rfl
                    rw [e, ← List.append_assoc]
                    exact owns_base ho HP'.out.below.size) (HP'.out.below.trans (hb.mono HP'.out.below.size))⟩
                by_cases hc : cc2 = j
                · have hN2 : Box (∀ W, Below wr.heap.size wr W → ∀ ad, some (⟨g, off, none⟩ : Addr) = some ad → ∀ i u, (cellsL (M.drop j))[i]? = some u → W.cell? (ad.add i) = some u) := ⟨fun W hb ad e i u hu => by
                    have := (List.getElem?_eq_some_iff.1 hu).1
                    have h2 := hl2.out
                    omega⟩
                  clear HP HP' HJ HOUT
                  go_region_law (first | (refine step_append_any _ rfl (.const (.slice none 0 0)) (.tmp 58) 33 rfl wr.heap.size 75 i0 _ 2 16 Try.underlying33 hi0 hz0 hz1 hz2 rfl (by decide) (.slice none 0 0) 0 [] rfl (World.ownsRow_nil _ _ _ _) (some ⟨g, off, none⟩) j cc2 (cellsL (M.take j)) (by simp [Act.eval, Act.put] <;> omega) hl1.out (fun e => by cases e) (hN1.out _ (by first | exact (Below.refl _ _).drew | exact (Below.refl _ _).drew.alloc (Nat.le_refl _) _)) (cellsL_one _) (by unfold maxLen; omega) (by omega) (by simp) ?_; intro v1 w1 ho1 hg1; have hb1 : Below wr.heap.size wr w1 := (by first | exact (Below.refl _ _).drew.grown hg1 (Nat.le_refl _) (fun k hk => by simp [Value.ownBlock] at hk) | exact ((Below.refl _ _).drew.alloc (Nat.le_refl _) _).grown hg1 (by simp) (fun k hk => by simp [Value.ownBlock] at hk))) | (refine step_append_any _ rfl (.tmp 59) (.tmp 63) 33 rfl wr.heap.size 75 i0 _ 2 16 Try.underlying33 hi0 hz0 hz1 hz2 rfl (by decide) v1 (0 + j) ([] ++ cellsL (M.take j)) (by simp [Act.eval]) (by first | exact ho1 | exact ho1.alloc _) _ 1 1 [.int .i64 id, .int .i64 till] rfl rfl (fun e => by cases e) (by intro ad e i u hu; injection e with e; subst e; first | exact World.news_of_block (new_block _ _) i u hu | exact World.news_of_block ((hg1.block wr.heap.size (by simp) (by simp [Value.ownBlock])).trans (new_block _ _)) i u hu) (by simp [Value.oneCell']) (by unfold maxLen; omega) (by omega) (by first | exact hb1.size | (rw [World.size_alloc]; have := hb1.size; omega)) ?_; intro v2 w2 ho2 hg2; have hb2 : Below wr.heap.size wr w2 := (by first | exact hb1.grown hg2 hb1.size (fun k hk => (ho1.lt k hk).1) | exact (hb1.alloc hb1.size _).grown hg2 (by rw [World.size_alloc]; have := hb1.size; omega) (fun k hk => (ho1.lt k hk).1))) | (refine step_append_any _ rfl (.tmp 64) (.tmp 67) 33 rfl wr.heap.size 75 i0 _ 2 16 Try.underlying33 hi0 hz0 hz1 hz2 rfl (by decide) v2 (0 + j + 1) (([] ++ cellsL (M.take j)) ++ [.int .i64 id, .int .i64 till]) (by simp [Act.eval]) ho2 (some ⟨g, off, none⟩) (m - j) 0 (cellsL (M.drop j)) (by simp [Act.eval] <;> omega) hl2.out (fun e => by cases e) (hN2.out _ hb2) (cellsL_one _) (by unfold maxLen; omega) (by omega) hb2.size ?_; intro v3 w3 ho3 hg3; have hb3 : Below wr.heap.size wr w3 := hb2.grown hg3 hb2.size (fun k hk => (ho2.lt k hk).1); have e3 : 0 + j + 1 + (m - j) = m + 1 := (by omega); rw [e3] at ho3; obtain ⟨ao4, c4, rfl⟩ := owns_slice ho3; have hq3 := HQ.out _ hb3; have hff := free_of hq3 0; have hcc : w3.cell? ⟨rb, 0, none⟩ = some (.slice ao n c) := (cell_of hq3 0).trans rfl; have HE := Box.mk (HE0.out _ _ ho3 hb3); clear ho3 hg3 hq3 e3))
                  all_goals
                    go_wp2
                    go_ret
                    exact HE.out
                · have hN2 : Box (∀ W, Below wr.heap.size wr W → ∀ ad, some (⟨g, off + j * 2, none⟩ : Addr) = some ad → ∀ i u, (cellsL (M.drop j))[i]? = some u → W.cell? (ad.add i) = some u) := ⟨fun W hb ad e i u hu => by
                    injection e with e; subst e
                    exact (HP'.out.row.of hb).part j (M := M.drop j) (R := []) (by simp) (by have := HP'.out.len; omega) i u hu⟩
                  clear HP HP' HJ HOUT
                  go_region_law (first | (refine step_append_any _ rfl (.const (.slice none 0 0)) (.tmp 58) 33 rfl wr.heap.size 75 i0 _ 2 16 Try.underlying33 hi0 hz0 hz1 hz2 rfl (by decide) (.slice none 0 0) 0 [] rfl (World.ownsRow_nil _ _ _ _) (some ⟨g, off, none⟩) j cc2 (cellsL (M.take j)) (by simp [Act.eval, Act.put] <;> omega) hl1.out (fun e => by cases e) (hN1.out _ (by first | exact (Below.refl _ _).drew | exact (Below.refl _ _).drew.alloc (Nat.le_refl _) _)) (cellsL_one _) (by unfold maxLen; omega) (by omega) (by simp) ?_; intro v1 w1 ho1 hg1; have hb1 : Below wr.heap.size wr w1 := (by first | exact (Below.refl _ _).drew.grown hg1 (Nat.le_refl _) (fun k hk => by simp [Value.ownBlock] at hk) | exact ((Below.refl _ _).drew.alloc (Nat.le_refl _) _).grown hg1 (by simp) (fun k hk => by simp [Value.ownBlock] at hk))) | (refine step_append_any _ rfl (.tmp 59) (.tmp 63) 33 rfl wr.heap.size 75 i0 _ 2 16 Try.underlying33 hi0 hz0 hz1 hz2 rfl (by decide) v1 (0 + j) ([] ++ cellsL (M.take j)) (by simp [Act.eval]) (by first | exact ho1 | exact ho1.alloc _) _ 1 1 [.int .i64 id, .int .i64 till] rfl rfl (fun e => by cases e) (by intro ad e i u hu; injection e with e; subst e; first | exact World.news_of_block (new_block _ _) i u hu | exact World.news_of_block ((hg1.block wr.heap.size (by simp) (by simp [Value.ownBlock])).trans (new_block _ _)) i u hu) (by simp [Value.oneCell']) (by unfold maxLen; omega) (by omega) (by first | exact hb1.size | (rw [World.size_alloc]; have := hb1.size; omega)) ?_; intro v2 w2 ho2 hg2; have hb2 : Below wr.heap.size wr w2 := (by first | exact hb1.grown hg2 hb1.size (fun k hk => (ho1.lt k hk).1) | exact (hb1.alloc hb1.size _).grown hg2 (by rw [World.size_alloc]; have := hb1.size; omega) (fun k hk => (ho1.lt k hk).1))) | (refine step_append_any _ rfl (.tmp 64) (.tmp 67) 33 rfl wr.heap.size 75 i0 _ 2 16 Try.underlying33 hi0 hz0 hz1 hz2 rfl (by decide) v2 (0 + j + 1) (([] ++ cellsL (M.take j)) ++ [.int .i64 id, .int .i64 till]) (by simp [Act.eval]) ho2 (some ⟨g, off + j * 2, none⟩) (m - j) (cc2 - j) (cellsL (M.drop j)) (by simp [Act.eval] <;> omega) hl2.out (fun e => by cases e) (hN2.out _ hb2) (cellsL_one _) (by unfold maxLen; omega) (by omega) hb2.size ?_; intro v3 w3 ho3 hg3; have hb3 : Below wr.heap.size wr w3 := hb2.grown hg3 hb2.size (fun k hk => (ho2.lt k hk).1); have e3 : 0 + j + 1 + (m - j) = m + 1 := (by omega); rw [e3] at ho3; obtain ⟨ao4, c4, rfl⟩ := owns_slice ho3; have hq3 := HQ.out _ hb3; have hff := free_of hq3 0; have hcc : w3.cell? ⟨rb, 0, none⟩ = some (.slice ao n c) := (cell_of hq3 0).trans rfl; have HE := Box.mk (HE0.out _ _ ho3 hb3); clear ho3 hg3 hq3 e3))
                  all_goals
                    go_wp2
                    go_ret
                    exact HE.out
            · have hb' : (M[j].2 == till) = false := by simpa using hb
              have HOUT : Box (∀ h : j < M.length, ¬ ltKV M[j] (id, till)) := ⟨fun h => by unfold ltKV; dsimp only; omega⟩
              clear hb
              go_wp2_with fail
              have HP' := Box.mk (show AtPut w wr B rb ao c n L M g off cc2 m id till by rw [HW.out]; exact HP)
              have hjm : j ≤ m := by have := HK.out; omega
              have hjc : (j : Int) ≤ cc2 := by have := HP'.out.row.le; have := HP'.out.len; omega
              have hjn : (j : Int) ≤ m := by omega
              have hnc : (m : Int) ≤ cc2 := by have := HP'.out.row.le; have := HP'.out.len; omega
              have hN1 : Box (∀ W, Below wr.heap.size wr W → ∀ ad, some (⟨g, off, none⟩ : Addr) = some ad → ∀ i u, (cellsL (M.take j))[i]? = some u → W.cell? (ad.add i) = some u) := ⟨fun W hb ad e i u hu => by
                injection e with e; subst e
                have := (HP'.out.row.of hb).part 0 (M := M.take j) (R := M.drop j) (by simp) (Nat.zero_le _) i u hu
                simpa using this⟩
              have hl1 : Box ((cellsL (M.take j)).length = j * 2) := ⟨by rw [cellsL_length, List.length_take, Nat.min_eq_left (by have := HP'.out.len; omega)]⟩
              have hl2 : Box ((cellsL (M.drop j)).length = (m - j) * 2) := ⟨by rw [cellsL_length, List.length_drop, HP'.out.len]⟩
              have HQ : Box (∀ W, Below wr.heap.size wr W → W.heap[rb]? = some (.cells #[.slice ao n c] 35 (0, 0))) := ⟨fun W hb => by
                have hlt : rb < w.heap.size := lt_of_block HP'.out.block
                exact ((hb.block rb (by have := HP'.out.below.size; omega)).trans (HP'.out.below.block rb hlt)).trans HP'.out.block⟩
              have HE0 : Box (∀ r W, W.ownsRow wr.heap.size 75 2 r (m + 1) (([] ++ cellsL (M.take j)) ++ [.int .i64 id, .int .i64 till] ++ cellsL (M.drop j)) → Below wr.heap.size wr W → RPuts w B rb ao L id till (.returned (.int .i64 0)) (W.setCell ⟨rb, 0, none⟩ r)) := ⟨fun r W ho hb =>
                HP'.out.fin j hjm HJ.out HOUT.out r W (by
                  rw [cellsL_append]
                  have e : cellsL ((id, till) :: M.drop j) = [.int .i64 id, .int .i64 till] ++ cellsL (M.drop j) := rfl
                  rw [e, ← List.append_assoc]
                  exact owns_base ho HP'.out.below.size) (HP'.out.below.trans (hb.mono HP'.out.below.size))⟩
              by_cases hc : cc2 = j
              · have hN2 : Box (∀ W, Below wr.heap.size wr W → ∀ ad, some (⟨g, off, none⟩ : Addr) = some ad → ∀ i u, (cellsL (M.drop j))[i]? = some u → W.cell? (ad.add i) = some u) := ⟨fun W hb ad e i u hu => by
                  have := (List.getElem?_eq_some_iff.1 hu).1
                  have h2 := hl2.out
                  omega⟩
                clear HP HP' HJ HOUT
                go_region_law (first | (refine step_append_any _ rfl (.const (.slice none 0 0)) (.tmp 58) 33 rfl wr.heap.size 75 i0 _ 2 16 Try.underlying33 hi0 hz0 hz1 hz2 rfl (by decide) (.slice none 0 0) 0 [] rfl (World.ownsRow_nil _ _ _ _) (some ⟨g, off, none⟩) j cc2 (cellsL (M.take j)) (by simp [Act.eval, Act.put] <;> omega) hl1.out (fun e => by cases e) (hN1.out _ (by first | exact (Below.refl _ _).drew | exact (Below.refl _ _).drew.alloc (Nat.le_refl _) _)) (cellsL_one _) (by unfold maxLen; omega) (by omega) (by simp) ?_; intro v1 w1 ho1 hg1; have hb1 : Below wr.heap.size wr w1 := (by first | exact (Below.refl _ _).drew.grown hg1 (Nat.le_refl _) (fun k hk => by simp [Value.ownBlock] at hk) | exact ((Below.refl _ _).drew.alloc (Nat.le_refl _) _).grown hg1 (by simp) (fun k hk => by simp [Value.ownBlock] at hk))) | (refine step_append_any _ rfl (.tmp 59) (.tmp 63) 33 rfl wr.heap.size 75 i0 _ 2 16 Try.underlying33 hi0 hz0 hz1 hz2 rfl (by decide) v1 (0 + j) ([] ++ cellsL (M.take j)) (by simp [Act.eval]) (by first | exact ho1 | exact ho1.alloc _) _ 1 1 [.int .i64 id, .int .i64 till] rfl rfl (fun e => by cases e) (by intro ad e i u hu; injection e with e; subst e; first | exact World.news_of_block (new_block _ _) i u hu | exact World.news_of_block ((hg1.block wr.heap.size (by simp) (by simp [Value.ownBlock])).trans (new_block _ _)) i u hu) (by simp [Value.oneCell']) (by unfold maxLen; omega) (by omega) (by first | exact hb1.size | (rw [World.size_alloc]; have := hb1.size; omega)) ?_; intro v2 w2 ho2 hg2; have hb2 : Below wr.heap.size wr w2 := (by first | exact hb1.grown hg2 hb1.size (fun k hk => (ho1.lt k hk).1) | exact (hb1.alloc hb1.size _).grown hg2 (by rw [World.size_alloc]; have := hb1.size; omega) (fun k hk => (ho1.lt k hk).1))) | (refine step_append_any _ rfl (.tmp 64) (.tmp 67) 33 rfl wr.heap.size 75 i0 _ 2 16 Try.underlying33 hi0 hz0 hz1 hz2 rfl (by decide) v2 (0 + j + 1) (([] ++ cellsL (M.take j)) ++ [.int .i64 id, .int .i64 till]) (by simp [Act.eval]) ho2 (some ⟨g, off, none⟩) (m - j) 0 (cellsL (M.drop j)) (by simp [Act.eval] <;> omega) hl2.out (fun e => by cases e) (hN2.out _ hb2) (cellsL_one _) (by unfold maxLen; omega) (by omega) hb2.size ?_; intro v3 w3 ho3 hg3; have hb3 : Below wr.heap.size wr w3 := hb2.grown hg3 hb2.size (fun k hk => (ho2.lt k hk).1); have e3 : 0 + j + 1 + (m - j) = m + 1 := (by omega); rw [e3] at ho3; obtain ⟨ao4, c4, rfl⟩ := owns_slice ho3; have hq3 := HQ.out _ hb3; have hff := free_of hq3 0; have hcc : w3.cell? ⟨rb, 0, none⟩ = some (.slice ao n c) := (cell_of hq3 0).trans rfl; have HE := Box.mk (HE0.out _ _ ho3 hb3); clear ho3 hg3 hq3 e3))
                all_goals
                  go_wp2
                  go_ret
                  exact HE.out
              · have hN2 : Box (∀ W, Below wr.heap.size wr W → ∀ ad, some (⟨g, off + j * 2, none⟩ : Addr) = some ad → ∀ i u, (cellsL (M.drop j))[i]? = some u → W.cell? (ad.add i) = some u) := ⟨fun W hb ad e i u hu => by
                  injection e with e; subst e
                  exact (HP'.out.row.of hb).part j (M := M.drop j) (R := []) (by simp) (by have := HP'.out.len; omega) i u hu⟩
                clear HP HP' HJ HOUT
                go_region_law (first | (refine step_append_any _ rfl (.const (.slice none 0 0)) (.tmp 58) 33 rfl wr.heap.size 75 i0 _ 2 16 Try.underlying33 hi0 hz0 hz1 hz2 rfl (by decide) (.slice none 0 0) 0 [] rfl (World.ownsRow_nil _ _ _ _) (some ⟨g, off, none⟩) j cc2 (cellsL (M.take j)) (by simp [Act.eval, Act.put] <;> omega) hl1.out (fun e => by cases e) (hN1.out _ (by first | exact (Below.refl _ _).drew | exact (Below.refl _ _).drew.alloc (Nat.le_refl _) _)) (cellsL_one _) (by unfold maxLen; omega) (by omega) (by simp) ?_; intro v1 w1 ho1 hg1; have hb1 : Below wr.heap.size wr w1 := (by first | exact (Below.refl _ _).drew.grown hg1 (Nat.le_refl _) (fun k hk => by simp [Value.ownBlock] at hk) | exact ((Below.refl _ _).drew.alloc (Nat.le_refl _) _).grown hg1 (by simp) (fun k hk => by simp [Value.ownBlock] at hk))) | (refine step_append_any _ rfl (.tmp 59) (.tmp 63) 33 rfl wr.heap.size 75 i0 _ 2 16 Try.underlying33 hi0 hz0 hz1 hz2 rfl (by decide) v1 (0 + j) ([] ++ cellsL (M.take j)) (by simp [Act.eval]) (by first | exact ho1 | exact ho1.alloc _) _ 1 1 [.int .i64 id, .int .i64 till] rfl rfl (fun e => by cases e) (by intro ad e i u hu; injection e with e; subst e; first | exact World.news_of_block (new_block _ _) i u hu | exact World.news_of_block ((hg1.block wr.heap.size (by simp) (by simp [Value.ownBlock])).trans (new_block _ _)) i u hu) (by simp [Value.oneCell']) (by unfold maxLen; omega) (by omega) (by first | exact hb1.size | (rw [World.size_alloc]; have := hb1.size; omega)) ?_; intro v2 w2 ho2 hg2; have hb2 : Below wr.heap.size wr w2 := (by first | exact hb1.grown hg2 hb1.size (fun k hk => (ho1.lt k hk).1) | exact (hb1.alloc hb1.size _).grown hg2 (by rw [World.size_alloc]; have := hb1.size; omega) (fun k hk => (ho1.lt k hk).1))) | (refine step_append_any _ rfl (.tmp 64) (.tmp 67) 33 rfl wr.heap.size 75 i0 _ 2 16 Try.underlying33 hi0 hz0 hz1 hz2 rfl (by decide) v2 (0 + j + 1) (([] ++ cellsL (M.take j)) ++ [.int .i64 id, .int .i64 till]) (by simp [Act.eval]) ho2 (some ⟨g, off + j * 2, none⟩) (m - j) (cc2 - j) (cellsL (M.drop j)) (by simp [Act.eval] <;> omega) hl2.out (fun e => by cases e) (hN2.out _ hb2) (cellsL_one _) (by unfold maxLen; omega) (by omega) hb2.size ?_; intro v3 w3 ho3 hg3; have hb3 : Below wr.heap.size wr w3 := hb2.grown hg3 hb2.size (fun k hk => (ho2.lt k hk).1); have e3 : 0 + j + 1 + (m - j) = m + 1 := (by omega); rw [e3] at ho3; obtain ⟨ao4, c4, rfl⟩ := owns_slice ho3; have hq3 := HQ.out _ hb3; have hff := free_of hq3 0; have hcc : w3.cell? ⟨rb, 0, none⟩ = some (.slice ao n c) := (cell_of hq3 0).trans rfl; have HE := Box.mk (HE0.out _ _ ho3 hb3); clear ho3 hg3 hq3 e3))
                all_goals
                  go_wp2
                  go_ret
                  exact HE.out
end Go.Proofs.Ytnnebkmjeigflaa.L
