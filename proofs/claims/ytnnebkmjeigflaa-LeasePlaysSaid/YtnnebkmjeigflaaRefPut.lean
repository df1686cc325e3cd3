/- The reference's Put. -/
import Derived.Test.YtnnebkmjeigflaaRefDrop
namespace Go.Proofs.Ytnnebkmjeigflaa.L
open Go.RowKit Go.Maps

theorem insKV_at (p : Int × Int) : ∀ (M : List (Int × Int)) (k : Nat), k ≤ M.length → (∀ q ∈ M, q.1 ≠ p.1) → (∀ j (h : j < M.length), j < k → ltKV M[j] p) → (∀ h : k < M.length, ¬ ltKV M[k] p) → insKV p M = M.take k ++ p :: M.drop k
  | [], k, hk, _, _, _ => by
    have : k = 0 := by simpa using hk
    subst this; rfl
  | q :: M, 0, _, hn, _, h2 => by
    have h := h2 (Nat.zero_lt_succ _)
    have hq := hn q (List.mem_cons_self ..)
    have : ltB p q = true := by
      rw [ltB_iff]
      have h : ¬ ltKV q p := h
      unfold ltKV at *
      omega
    unfold insKV
    rw [if_pos this]
    rfl
  | q :: M, k + 1, hk, hn, h1, h2 => by
    have h := h1 0 (Nat.zero_lt_succ _) (Nat.zero_lt_succ _)
    have h : ltKV q p := h
    have : ¬ ltB p q = true := by
      rw [ltB_iff]
      unfold ltKV at *
      omega
    unfold insKV
    rw [if_neg this, insKV_at p M k (by simpa using hk) (fun x hx => hn x (List.mem_cons_of_mem _ hx)) (fun j hj hjk => h1 (j + 1) (by simpa using hj) (by omega)) (fun hl => h2 (by simpa using hl))]
    rfl
def RPuts (w : World) (B rb : Nat) (ao : Option Addr) (L : List (Int × Int)) (id till : Int) (e : Ending) (w' : World) : Prop := e = .returned (.int .i64 (putRes L id)) ∧ RWent w w' B rb ao (putS L id till)
theorem RowL.at {w : World} {ao : Option Addr} {c : Nat} {L : List (Int × Int)} (h : RowL w ao c L) (i : Nat) (hi : i < L.length) :
    ∃ g off, ao = some ⟨g, off, none⟩ ∧ w.cell? ⟨g, off + i * 2, none⟩ = some (.int .i64 L[i].1) ∧ w.cell? ⟨g, off + i * 2 + 1, none⟩ = some (.int .i64 L[i].2) := by
  cases ao with
  | none => have := (h.empty rfl).1; omega
  | some a =>
    have h1 := h.form a rfl
    have hg := cellsL_get L i hi
    exact ⟨a.block, a.off, by rw [← h1], by have := h.cells a rfl _ _ hg.1; exact this, by have := h.cells a rfl _ _ hg.2; exact this⟩
theorem RowL.of {w w' : World} {ao : Option Addr} {c : Nat} {L : List (Int × Int)} (h : RowL w ao c L) (hb : Below w.heap.size w w') : RowL w' ao c L :=
  ⟨h.le, h.few, h.empty, h.form, fun a e j u hu => by
    have h0 := h.cells a e j u hu
    exact (hb.cell (World.block_lt_of_cell? w _ h0)).trans h0⟩
/-- What stands behind the reference's choice of the row: a list M in a row (g, off), the queue's block. -/
structure AtPut (w W1 : World) (B rb : Nat) (ao : Option Addr) (c n : Nat) (L M : List (Int × Int)) (g off c2 m : Nat) (id till : Int) : Prop where
  below : Below w.heap.size w W1
  row : RowL W1 (some ⟨g, off, none⟩) c2 M
  len : M.length = m
  block : w.heap[rb]? = some (.cells #[.slice ao n c] 35 (0, 0))
  fin : ∀ k, k ≤ m → (∀ j (h : j < M.length), j < k → ltKV M[j] (id, till)) → (∀ h : k < M.length, ¬ ltKV M[k] (id, till)) → ∀ r W, W.ownsRow w.heap.size 75 2 r (m + 1) (cellsL (M.take k ++ (id, till) :: M.drop k)) → Below w.heap.size w W → RPuts w B rb ao L id till (.returned (.int .i64 0)) (W.setCell ⟨rb, 0, none⟩ r)
theorem AtPut.of {w W1 : World} {B rb : Nat} {ao : Option Addr} {c : Nat} {L : List (Int × Int)} {g off c2 m : Nat} {id till : Int} (h : RefQ w B rb ao c L) (hB : B ≤ w.heap.size) (hb : Below w.heap.size w W1) (hr : RowL W1 (some ⟨g, off, none⟩) c2 (without L id)) (hm : (without L id).length = m) (hm2 : m < 1024) (h0 : putRes L id = 0) :
    AtPut w W1 B rb ao c L.length L (without L id) g off c2 m id till :=
  ⟨hb, hr, hm, h.q, fun k hk h1 h2 r W ho hW => by
    have e := insKV_at (id, till) (without L id) k (by omega) (without_not L id) h1 h2
    have el : (insKV (id, till) (without L id)).length = m + 1 := by rw [(insKV_perm _ _).length_eq, List.length_cons, hm]
    refine ⟨by rw [h0], ?_⟩
    unfold putS
    rw [h0, if_pos rfl]
    exact rwent_store h hB (by rw [el, e]; exact ho) (by omega) hW⟩
set_option maxHeartbeats 2000000 in
set_option maxRecDepth 100000 in
theorem rput_new (B rb g off c : Nat) (L : List (Int × Int)) (id till : Int) (hn : ∀ p ∈ L, p.1 ≠ id) (h1 : 1 ≤ id) (hl : L.length < 1024) (w : World) (h : RefQ w B rb (some ⟨g, off, none⟩) c L) (hB : B ≤ w.heap.size) :
    Calls Try.prog 32 #[.pointer (some ⟨rb, 0, none⟩), .int .i64 id, .int .i64 till] w (RPuts w B rb (some ⟨g, off, none⟩) L id till) := by
  obtain ⟨i0, hi0, hz0, hz1, hz2⟩ := info_parts info75
  have hc0 := h.c0
  have c1 := fun W hb => find_out B rb _ c L id hn W (h.past hb)
  have c2 := fun W => without_neg (.slice (some ⟨g, off, none⟩) L.length c) W
  have h1' : ¬ id < 1 := by omega
  have hko := known_out hn
  have hwn : without L id = L := without_none hko
  have hp0 : putRes L id = 0 := by unfold putRes; rw [if_neg h1', hko, if_neg (by decide), if_pos hl]
  have hle := h.le
  have hbd : Below w.heap.size w (w.drewN 1) := below_drewN (Below.refl _ _) 1
  have HPB : Box (AtPut w (w.drewN 1) B rb (some ⟨g, off, none⟩) c L.length L (without L id) g off c L.length id till) := ⟨AtPut.of h hB hbd (by rw [hwn]; exact h.rowL.of hbd) (by rw [hwn]) hl hp0⟩
  rw [hwn] at HPB
  obtain ⟨n, hnl⟩ : ∃ n, L.length = n := ⟨_, rfl⟩
  rw [hnl] at hc0 hle c2 HPB hl
  have hm1 : (n : Int) < 1024 := by omega
  clear h hn hnl hwn hko hp0
  go_enter Try.func32, Try.ntmps32
  go_wp2_with fail
  go_region_with (first | (go_at_call 33; refine (c1 _ (below_drewN (Below.refl _ _) _)).mono ?_; rintro e w1 ⟨rfl, rfl⟩) | (go_at_call 42; refine (c2 _).mono ?_; rintro e w1 ⟨rfl, rfl⟩))
  all_goals
    have hm2 := hm1
    have HP : AtPut w (w.drewN 1) B rb (some ⟨g, off, none⟩) c n L L g off c n id till := HPB.out
    generalize w.drewN 1 = W1 at *
    clear HPB
    go_wp2
    go_loopg [8] n (fun k v8 wr => ∃ j : Nat, v8 = .int .i64 j ∧ Box (j + k = n) ∧ Box (∀ i (h : i < L.length), i < j → ltKV L[i] (id, till)) ∧ Box (wr = W1))
    case atStart => exact ⟨0, rfl, ⟨by omega⟩, ⟨fun i h hi => absurd hi (Nat.not_lt_zero _)⟩, ⟨rfl⟩⟩
    case round =>
      obtain ⟨j, rfl, HK, HJ, HW⟩ := hrel
      cases gk with
      | zero =>
        have hlt : ¬ (j : Int) < n := by have := HK.out; omega
        have HOUT : Box (∀ h : j < L.length, ¬ ltKV L[j] (id, till)) := ⟨fun h => by have := HK.out; have := HP.len; omega⟩
        have HP := HP
        go_wp2_with fail
        have HP' := Box.mk (show AtPut w wr B rb (some ⟨g, off, none⟩) c n L L g off c n id till by rw [HW.out]; exact HP)
        have hjm : j ≤ n := by have := HK.out; omega
        have hjc : (j : Int) ≤ c := by have := HP'.out.row.le; have := HP'.out.len; omega
        have hjn : (j : Int) ≤ n := by omega
        have hnc : (n : Int) ≤ c := by have := HP'.out.row.le; have := HP'.out.len; omega
        have hN1 : Box (∀ W, Below wr.heap.size wr W → ∀ ad, some (⟨g, off, none⟩ : Addr) = some ad → ∀ i u, (cellsL (L.take j))[i]? = some u → W.cell? (ad.add i) = some u) := ⟨fun W hb ad e i u hu => by
          injection e with e; subst e
          have := (HP'.out.row.of hb).part 0 (M := L.take j) (R := L.drop j) (by simp) (Nat.zero_le _) i u hu
          simpa using this⟩
        have hl1 : Box ((cellsL (L.take j)).length = j * 2) := ⟨by rw [cellsL_length, List.length_take, Nat.min_eq_left (by have := HP'.out.len; omega)]⟩
        have hl2 : Box ((cellsL (L.drop j)).length = (n - j) * 2) := ⟨by rw [cellsL_length, List.length_drop, HP'.out.len]⟩
        have HQ : Box (∀ W, Below wr.heap.size wr W → W.heap[rb]? = some (.cells #[.slice (some ⟨g, off, none⟩) n c] 35 (0, 0))) := ⟨fun W hb => by
          have hlt : rb < w.heap.size := lt_of_block HP'.out.block
          exact ((hb.block rb (by have := HP'.out.below.size; omega)).trans (HP'.out.below.block rb hlt)).trans HP'.out.block⟩
        have HE0 : Box (∀ r W, W.ownsRow wr.heap.size 75 2 r (n + 1) (([] ++ cellsL (L.take j)) ++ [.int .i64 id, .int .i64 till] ++ cellsL (L.drop j)) → Below wr.heap.size wr W → RPuts w B rb (some ⟨g, off, none⟩) L id till (.returned (.int .i64 0)) (W.setCell ⟨rb, 0, none⟩ r)) := ⟨fun r W ho hb =>
          HP'.out.fin j hjm HJ.out HOUT.out r W (by
            rw [cellsL_append]
            have e : cellsL ((id, till) :: L.drop j) = [.int .i64 id, .int .i64 till] ++ cellsL (L.drop j) := rfl
            rw [e, ← List.append_assoc]
            exact owns_base ho HP'.out.below.size) (HP'.out.below.trans (hb.mono HP'.out.below.size))⟩
        by_cases hc : c = j
        · have hN2 : Box (∀ W, Below wr.heap.size wr W → ∀ ad, some (⟨g, off, none⟩ : Addr) = some ad → ∀ i u, (cellsL (L.drop j))[i]? = some u → W.cell? (ad.add i) = some u) := ⟨fun W hb ad e i u hu => by
            have := (List.getElem?_eq_some_iff.1 hu).1
            have h2 := hl2.out
            omega⟩
          clear HP HP' HJ HOUT
          go_region_law (first | (refine step_append_any _ rfl (.const (.slice none 0 0)) (.tmp 58) 33 rfl wr.heap.size 75 i0 _ 2 16 Try.underlying33 hi0 hz0 hz1 hz2 rfl (by decide) (.slice none 0 0) 0 [] rfl (World.ownsRow_nil _ _ _ _) (some ⟨g, off, none⟩) j c (cellsL (L.take j)) (by simp [Act.eval, Act.put] <;> omega) hl1.out (fun e => by cases e) (hN1.out _ (by first | exact (Below.refl _ _).drew | exact (Below.refl _ _).drew.alloc (Nat.le_refl _) _)) (cellsL_one _) (by unfold maxLen; omega) (by omega) (by simp) ?_; intro v1 w1 ho1 hg1; have hb1 : Below wr.heap.size wr w1 := (by first | exact (Below.refl _ _).drew.grown hg1 (Nat.le_refl _) (fun k hk => by simp [Value.ownBlock] at hk) | exact ((Below.refl _ _).drew.alloc (Nat.le_refl _) _).grown hg1 (by simp) (fun k hk => by simp [Value.ownBlock] at hk))) | (refine step_append_any _ rfl (.tmp 59) (.tmp 63) 33 rfl wr.heap.size 75 i0 _ 2 16 Try.underlying33 hi0 hz0 hz1 hz2 rfl (by decide) v1 (0 + j) ([] ++ cellsL (L.take j)) (by simp [Act.eval]) (by first | exact ho1 | exact ho1.alloc _) _ 1 1 [.int .i64 id, .int .i64 till] rfl rfl (fun e => by cases e) (by intro ad e i u hu; injection e with e; subst e; first | exact World.news_of_block (new_block _ _) i u hu | exact World.news_of_block ((hg1.block wr.heap.size (by simp) (by simp [Value.ownBlock])).trans (new_block _ _)) i u hu) (by simp [Value.oneCell']) (by unfold maxLen; omega) (by omega) (by first | exact hb1.size | (rw [World.size_alloc]; have := hb1.size; omega)) ?_; intro v2 w2 ho2 hg2; have hb2 : Below wr.heap.size wr w2 := (by first | exact hb1.grown hg2 hb1.size (fun k hk => (ho1.lt k hk).1) | exact (hb1.alloc hb1.size _).grown hg2 (by rw [World.size_alloc]; have := hb1.size; omega) (fun k hk => (ho1.lt k hk).1))) | (refine step_append_any _ rfl (.tmp 64) (.tmp 67) 33 rfl wr.heap.size 75 i0 _ 2 16 Try.underlying33 hi0 hz0 hz1 hz2 rfl (by decide) v2 (0 + j + 1) (([] ++ cellsL (L.take j)) ++ [.int .i64 id, .int .i64 till]) (by simp [Act.eval]) ho2 (some ⟨g, off, none⟩) (n - j) 0 (cellsL (L.drop j)) (by simp [Act.eval] <;> omega) hl2.out (fun e => by cases e) (hN2.out _ hb2) (cellsL_one _) (by unfold maxLen; omega) (by omega) hb2.size ?_; intro v3 w3 ho3 hg3; have hb3 : Below wr.heap.size wr w3 := hb2.grown hg3 hb2.size (fun k hk => (ho2.lt k hk).1); have e3 : 0 + j + 1 + (n - j) = n + 1 := (by omega); rw [e3] at ho3; obtain ⟨ao4, c4, rfl⟩ := owns_slice ho3; have hq3 := HQ.out _ hb3; have hff := free_of hq3 0; have hcc : w3.cell? ⟨rb, 0, none⟩ = some (.slice (some ⟨g, off, none⟩) n c) := (cell_of hq3 0).trans rfl; have HE := Box.mk (HE0.out _ _ ho3 hb3); clear ho3 hg3 hq3 e3))
          all_goals
            go_wp2
            go_ret
            exact HE.out
        · have hN2 : Box (∀ W, Below wr.heap.size wr W → ∀ ad, some (⟨g, off + j * 2, none⟩ : Addr) = some ad → ∀ i u, (cellsL (L.drop j))[i]? = some u → W.cell? (ad.add i) = some u) := ⟨fun W hb ad e i u hu => by
            injection e with e; subst e
            exact (HP'.out.row.of hb).part j (M := L.drop j) (R := []) (by simp) (by have := HP'.out.len; omega) i u hu⟩
          clear HP HP' HJ HOUT
          go_region_law (first | (refine step_append_any _ rfl (.const (.slice none 0 0)) (.tmp 58) 33 rfl wr.heap.size 75 i0 _ 2 16 Try.underlying33 hi0 hz0 hz1 hz2 rfl (by decide) (.slice none 0 0) 0 [] rfl (World.ownsRow_nil _ _ _ _) (some ⟨g, off, none⟩) j c (cellsL (L.take j)) (by simp [Act.eval, Act.put] <;> omega) hl1.out (fun e => by cases e) (hN1.out _ (by first | exact (Below.refl _ _).drew | exact (Below.refl _ _).drew.alloc (Nat.le_refl _) _)) (cellsL_one _) (by unfold maxLen; omega) (by omega) (by simp) ?_; intro v1 w1 ho1 hg1; have hb1 : Below wr.heap.size wr w1 := (by first | exact (Below.refl _ _).drew.grown hg1 (Nat.le_refl _) (fun k hk => by simp [Value.ownBlock] at hk) | exact ((Below.refl _ _).drew.alloc (Nat.le_refl _) _).grown hg1 (by simp) (fun k hk => by simp [Value.ownBlock] at hk))) | (refine step_append_any _ rfl (.tmp 59) (.tmp 63) 33 rfl wr.heap.size 75 i0 _ 2 16 Try.underlying33 hi0 hz0 hz1 hz2 rfl (by decide) v1 (0 + j) ([] ++ cellsL (L.take j)) (by simp [Act.eval]) (by first | exact ho1 | exact ho1.alloc _) _ 1 1 [.int .i64 id, .int .i64 till] rfl rfl (fun e => by cases e) (by intro ad e i u hu; injection e with e; subst e; first | exact World.news_of_block (new_block _ _) i u hu | exact World.news_of_block ((hg1.block wr.heap.size (by simp) (by simp [Value.ownBlock])).trans (new_block _ _)) i u hu) (by simp [Value.oneCell']) (by unfold maxLen; omega) (by omega) (by first | exact hb1.size | (rw [World.size_alloc]; have := hb1.size; omega)) ?_; intro v2 w2 ho2 hg2; have hb2 : Below wr.heap.size wr w2 := (by first | exact hb1.grown hg2 hb1.size (fun k hk => (ho1.lt k hk).1) | exact (hb1.alloc hb1.size _).grown hg2 (by rw [World.size_alloc]; have := hb1.size; omega) (fun k hk => (ho1.lt k hk).1))) | (refine step_append_any _ rfl (.tmp 64) (.tmp 67) 33 rfl wr.heap.size 75 i0 _ 2 16 Try.underlying33 hi0 hz0 hz1 hz2 rfl (by decide) v2 (0 + j + 1) (([] ++ cellsL (L.take j)) ++ [.int .i64 id, .int .i64 till]) (by simp [Act.eval]) ho2 (some ⟨g, off + j * 2, none⟩) (n - j) (c - j) (cellsL (L.drop j)) (by simp [Act.eval] <;> omega) hl2.out (fun e => by cases e) (hN2.out _ hb2) (cellsL_one _) (by unfold maxLen; omega) (by omega) hb2.size ?_; intro v3 w3 ho3 hg3; have hb3 : Below wr.heap.size wr w3 := hb2.grown hg3 hb2.size (fun k hk => (ho2.lt k hk).1); have e3 : 0 + j + 1 + (n - j) = n + 1 := (by omega); rw [e3] at ho3; obtain ⟨ao4, c4, rfl⟩ := owns_slice ho3; have hq3 := HQ.out _ hb3; have hff := free_of hq3 0; have hcc : w3.cell? ⟨rb, 0, none⟩ = some (.slice (some ⟨g, off, none⟩) n c) := (cell_of hq3 0).trans rfl; have HE := Box.mk (HE0.out _ _ ho3 hb3); clear ho3 hg3 hq3 e3))
          all_goals
            go_wp2
            go_ret
            exact HE.out
      | succ k1 =>
        have hlt : (j : Int) < n := by have := HK.out; omega
        have h0 : (0 : Int) ≤ j := by omega
        have hj : j < L.length := by have := HK.out; have := HP.len; omega
        obtain ⟨g', off', e, x1, x2⟩ := (show RowL wr (some ⟨g, off, none⟩) c L by rw [HW.out]; exact HP.row).at j hj
        injection e with e
        injection e with e1 e2
        subst e1 e2
        by_cases ha : L[j].2 < till
        · have HS : Box (ltKV L[j] (id, till)) := ⟨.inl ha⟩
          have HJ2 : Box (∀ i (h : i < L.length), i < j + 1 → ltKV L[i] (id, till)) := ⟨fun i h hi => by
            by_cases e : i = j
            · subst e; exact HS.out
            · exact HJ.out i h (by omega)⟩
          clear HP HJ HS 
          go_wp2
          go_roundg k1
          case measure => omega
          case rel => exact ⟨j + 1, by go_num, ⟨by have := HK.out; omega⟩, HJ2, HW⟩
        · by_cases hb : L[j].2 = till
          · have hb' : (L[j].2 == till) = true := by simpa using hb
            by_cases hd : L[j].1 < id
            · have HS : Box (ltKV L[j] (id, till)) := ⟨.inr ⟨hb, hd⟩⟩
              have HJ2 : Box (∀ i (h : i < L.length), i < j + 1 → ltKV L[i] (id, till)) := ⟨fun i h hi => by
                by_cases e : i = j
                · subst e; exact HS.out
                · exact HJ.out i h (by omega)⟩
              clear HP HJ HS hb
              go_wp2
              go_roundg k1
              case measure => omega
              case rel => exact ⟨j + 1, by go_num, ⟨by have := HK.out; omega⟩, HJ2, HW⟩
            · have HOUT : Box (∀ h : j < L.length, ¬ ltKV L[j] (id, till)) := ⟨fun h => by unfold ltKV; dsimp only; omega⟩
              clear hb
              go_wp2_with fail
              have HP' := Box.mk (show AtPut w wr B rb (some ⟨g, off, none⟩) c n L L g off c n id till by rw [HW.out]; exact HP)
              have hjm : j ≤ n := by have := HK.out; omega
              have hjc : (j : Int) ≤ c := by have := HP'.out.row.le; have := HP'.out.len; omega
              have hjn : (j : Int) ≤ n := by omega
              have hnc : (n : Int) ≤ c := by have := HP'.out.row.le; have := HP'.out.len; omega
              have hN1 : Box (∀ W, Below wr.heap.size wr W → ∀ ad, some (⟨g, off, none⟩ : Addr) = some ad → ∀ i u, (cellsL (L.take j))[i]? = some u → W.cell? (ad.add i) = some u) := ⟨fun W hb ad e i u hu => by
                injection e with e; subst e
                have := (HP'.out.row.of hb).part 0 (M := L.take j) (R := L.drop j) (by simp) (Nat.zero_le _) i u hu
                simpa using this⟩
              have hl1 : Box ((cellsL (L.take j)).length = j * 2) := ⟨by rw [cellsL_length, List.length_take, Nat.min_eq_left (by have := HP'.out.len; omega)]⟩
              have hl2 : Box ((cellsL (L.drop j)).length = (n - j) * 2) := ⟨by rw [cellsL_length, List.length_drop, HP'.out.len]⟩
              have HQ : Box (∀ W, Below wr.heap.size wr W → W.heap[rb]? = some (.cells #[.slice (some ⟨g, off, none⟩) n c] 35 (0, 0))) := ⟨fun W hb => by
                have hlt : rb < w.heap.size := lt_of_block HP'.out.block
                exact ((hb.block rb (by have := HP'.out.below.size; omega)).trans (HP'.out.below.block rb hlt)).trans HP'.out.block⟩
              have HE0 : Box (∀ r W, W.ownsRow wr.heap.size 75 2 r (n + 1) (([] ++ cellsL (L.take j)) ++ [.int .i64 id, .int .i64 till] ++ cellsL (L.drop j)) → Below wr.heap.size wr W → RPuts w B rb (some ⟨g, off, none⟩) L id till (.returned (.int .i64 0)) (W.setCell ⟨rb, 0, none⟩ r)) := ⟨fun r W ho hb =>
                HP'.out.fin j hjm HJ.out HOUT.out r W (by
                  rw [cellsL_append]
                  have e : cellsL ((id, till) :: L.drop j) = [.int .i64 id, .int .i64 till] ++ cellsL (L.drop j) := rfl
                  rw [e, ← List.append_assoc]
                  exact owns_base ho HP'.out.below.size) (HP'.out.below.trans (hb.mono HP'.out.below.size))⟩
              by_cases hc : c = j
              · have hN2 : Box (∀ W, Below wr.heap.size wr W → ∀ ad, some (⟨g, off, none⟩ : Addr) = some ad → ∀ i u, (cellsL (L.drop j))[i]? = some u → W.cell? (ad.add i) = some u) := ⟨fun W hb ad e i u hu => by
                  have := (List.getElem?_eq_some_iff.1 hu).1
                  have h2 := hl2.out
                  omega⟩
                clear HP HP' HJ HOUT
                go_region_law (first | (refine step_append_any _ rfl (.const (.slice none 0 0)) (.tmp 58) 33 rfl wr.heap.size 75 i0 _ 2 16 Try.underlying33 hi0 hz0 hz1 hz2 rfl (by decide) (.slice none 0 0) 0 [] rfl (World.ownsRow_nil _ _ _ _) (some ⟨g, off, none⟩) j c (cellsL (L.take j)) (by simp [Act.eval, Act.put] <;> omega) hl1.out (fun e => by cases e) (hN1.out _ (by first | exact (Below.refl _ _).drew | exact (Below.refl _ _).drew.alloc (Nat.le_refl _) _)) (cellsL_one _) (by unfold maxLen; omega) (by omega) (by simp) ?_; intro v1 w1 ho1 hg1; have hb1 : Below wr.heap.size wr w1 := (by first | exact (Below.refl _ _).drew.grown hg1 (Nat.le_refl _) (fun k hk => by simp [Value.ownBlock] at hk) | exact ((Below.refl _ _).drew.alloc (Nat.le_refl _) _).grown hg1 (by simp) (fun k hk => by simp [Value.ownBlock] at hk))) | (refine step_append_any _ rfl (.tmp 59) (.tmp 63) 33 rfl wr.heap.size 75 i0 _ 2 16 Try.underlying33 hi0 hz0 hz1 hz2 rfl (by decide) v1 (0 + j) ([] ++ cellsL (L.take j)) (by simp [Act.eval]) (by first | exact ho1 | exact ho1.alloc _) _ 1 1 [.int .i64 id, .int .i64 till] rfl rfl (fun e => by cases e) (by intro ad e i u hu; injection e with e; subst e; first | exact World.news_of_block (new_block _ _) i u hu | exact World.news_of_block ((hg1.block wr.heap.size (by simp) (by simp [Value.ownBlock])).trans (new_block _ _)) i u hu) (by simp [Value.oneCell']) (by unfold maxLen; omega) (by omega) (by first | exact hb1.size | (rw [World.size_alloc]; have := hb1.size; omega)) ?_; intro v2 w2 ho2 hg2; have hb2 : Below wr.heap.size wr w2 := (by first | exact hb1.grown hg2 hb1.size (fun k hk => (ho1.lt k hk).1) | exact (hb1.alloc hb1.size _).grown hg2 (by rw [World.size_alloc]; have := hb1.size; omega) (fun k hk => (ho1.lt k hk).1))) | (refine step_append_any _ rfl (.tmp 64) (.tmp 67) 33 rfl wr.heap.size 75 i0 _ 2 16 Try.underlying33 hi0 hz0 hz1 hz2 rfl (by decide) v2 (0 + j + 1) (([] ++ cellsL (L.take j)) ++ [.int .i64 id, .int .i64 till]) (by simp [Act.eval]) ho2 (some ⟨g, off, none⟩) (n - j) 0 (cellsL (L.drop j)) (by simp [Act.eval] <;> omega) hl2.out (fun e => by cases e) (hN2.out _ hb2) (cellsL_one _) (by unfold maxLen; omega) (by omega) hb2.size ?_; intro v3 w3 ho3 hg3; have hb3 : Below wr.heap.size wr w3 := hb2.grown hg3 hb2.size (fun k hk => (ho2.lt k hk).1); have e3 : 0 + j + 1 + (n - j) = n + 1 := (by omega); rw [e3] at ho3; obtain ⟨ao4, c4, rfl⟩ := owns_slice ho3; have hq3 := HQ.out _ hb3; have hff := free_of hq3 0; have hcc : w3.cell? ⟨rb, 0, none⟩ = some (.slice (some ⟨g, off, none⟩) n c) := (cell_of hq3 0).trans rfl; have HE := Box.mk (HE0.out _ _ ho3 hb3); clear ho3 hg3 hq3 e3))
                all_goals
                  go_wp2
                  go_ret
                  exact HE.out
              · have hN2 : Box (∀ W, Below wr.heap.size wr W → ∀ ad, some (⟨g, off + j * 2, none⟩ : Addr) = some ad → ∀ i u, (cellsL (L.drop j))[i]? = some u → W.cell? (ad.add i) = some u) := ⟨fun W hb ad e i u hu => by
                  injection e with e; subst e
                  exact (HP'.out.row.of hb).part j (M := L.drop j) (R := []) (by simp) (by have := HP'.out.len; omega) i u hu⟩
                clear HP HP' HJ HOUT
                go_region_law (first | (refine step_append_any _ rfl (.const (.slice none 0 0)) (.tmp 58) 33 rfl wr.heap.size 75 i0 _ 2 16 Try.underlying33 hi0 hz0 hz1 hz2 rfl (by decide) (.slice none 0 0) 0 [] rfl (World.ownsRow_nil _ _ _ _) (some ⟨g, off, none⟩) j c (cellsL (L.take j)) (by simp [Act.eval, Act.put] <;> omega) hl1.out (fun e => by cases e) (hN1.out _ (by first | exact (Below.refl _ _).drew | exact (Below.refl _ _).drew.alloc (Nat.le_refl _) _)) (cellsL_one _) (by unfold maxLen; omega) (by omega) (by simp) ?_; intro v1 w1 ho1 hg1; have hb1 : Below wr.heap.size wr w1 := (by first | exact (Below.refl _ _).drew.grown hg1 (Nat.le_refl _) (fun k hk => by simp [Value.ownBlock] at hk) | exact ((Below.refl _ _).drew.alloc (Nat.le_refl _) _).grown hg1 (by simp) (fun k hk => by simp [Value.ownBlock] at hk))) | (refine step_append_any _ rfl (.tmp 59) (.tmp 63) 33 rfl wr.heap.size 75 i0 _ 2 16 Try.underlying33 hi0 hz0 hz1 hz2 rfl (by decide) v1 (0 + j) ([] ++ cellsL (L.take j)) (by simp [Act.eval]) (by first | exact ho1 | exact ho1.alloc _) _ 1 1 [.int .i64 id, .int .i64 till] rfl rfl (fun e => by cases e) (by intro ad e i u hu; injection e with e; subst e; first | exact World.news_of_block (new_block _ _) i u hu | exact World.news_of_block ((hg1.block wr.heap.size (by simp) (by simp [Value.ownBlock])).trans (new_block _ _)) i u hu) (by simp [Value.oneCell']) (by unfold maxLen; omega) (by omega) (by first | exact hb1.size | (rw [World.size_alloc]; have := hb1.size; omega)) ?_; intro v2 w2 ho2 hg2; have hb2 : Below wr.heap.size wr w2 := (by first | exact hb1.grown hg2 hb1.size (fun k hk => (ho1.lt k hk).1) | exact (hb1.alloc hb1.size _).grown hg2 (by rw [World.size_alloc]; have := hb1.size; omega) (fun k hk => (ho1.lt k hk).1))) | (refine step_append_any _ rfl (.tmp 64) (.tmp 67) 33 rfl wr.heap.size 75 i0 _ 2 16 Try.underlying33 hi0 hz0 hz1 hz2 rfl (by decide) v2 (0 + j + 1) (([] ++ cellsL (L.take j)) ++ [.int .i64 id, .int .i64 till]) (by simp [Act.eval]) ho2 (some ⟨g, off + j * 2, none⟩) (n - j) (c - j) (cellsL (L.drop j)) (by simp [Act.eval] <;> omega) hl2.out (fun e => by cases e) (hN2.out _ hb2) (cellsL_one _) (by unfold maxLen; omega) (by omega) hb2.size ?_; intro v3 w3 ho3 hg3; have hb3 : Below wr.heap.size wr w3 := hb2.grown hg3 hb2.size (fun k hk => (ho2.lt k hk).1); have e3 : 0 + j + 1 + (n - j) = n + 1 := (by omega); rw [e3] at ho3; obtain ⟨ao4, c4, rfl⟩ := owns_slice ho3; have hq3 := HQ.out _ hb3; have hff := free_of hq3 0; have hcc : w3.cell? ⟨rb, 0, none⟩ = some (.slice (some ⟨g, off, none⟩) n c) := (cell_of hq3 0).trans rfl; have HE := Box.mk (HE0.out _ _ ho3 hb3); clear ho3 hg3 hq3 e3))
                all_goals
                  go_wp2
                  go_ret
                  exact HE.out
          · have hb' : (L[j].2 == till) = false := by simpa using hb
            have HOUT : Box (∀ h : j < L.length, ¬ ltKV L[j] (id, till)) := ⟨fun h => by unfold ltKV; dsimp only; omega⟩
            clear hb
            go_wp2_with fail
            have HP' := Box.mk (show AtPut w wr B rb (some ⟨g, off, none⟩) c n L L g off c n id till by rw [HW.out]; exact HP)
            have hjm : j ≤ n := by have := HK.out; omega
            have hjc : (j : Int) ≤ c := by have := HP'.out.row.le; have := HP'.out.len; omega
            have hjn : (j : Int) ≤ n := by omega
            have hnc : (n : Int) ≤ c := by have := HP'.out.row.le; have := HP'.out.len; omega
            have hN1 : Box (∀ W, Below wr.heap.size wr W → ∀ ad, some (⟨g, off, none⟩ : Addr) = some ad → ∀ i u, (cellsL (L.take j))[i]? = some u → W.cell? (ad.add i) = some u) := ⟨fun W hb ad e i u hu => by
              injection e with e; subst e
              have := (HP'.out.row.of hb).part 0 (M := L.take j) (R := L.drop j) (by simp) (Nat.zero_le _) i u hu
              simpa using this⟩
            have hl1 : Box ((cellsL (L.take j)).length = j * 2) := ⟨by rw [cellsL_length, List.length_take, Nat.min_eq_left (by have := HP'.out.len; omega)]⟩
            have hl2 : Box ((cellsL (L.drop j)).length = (n - j) * 2) := ⟨by rw [cellsL_length, List.length_drop, HP'.out.len]⟩
            have HQ : Box (∀ W, Below wr.heap.size wr W → W.heap[rb]? = some (.cells #[.slice (some ⟨g, off, none⟩) n c] 35 (0, 0))) := ⟨fun W hb => by
              have hlt : rb < w.heap.size := lt_of_block HP'.out.block
              exact ((hb.block rb (by have := HP'.out.below.size; omega)).trans (HP'.out.below.block rb hlt)).trans HP'.out.block⟩
            have HE0 : Box (∀ r W, W.ownsRow wr.heap.size 75 2 r (n + 1) (([] ++ cellsL (L.take j)) ++ [.int .i64 id, .int .i64 till] ++ cellsL (L.drop j)) → Below wr.heap.size wr W → RPuts w B rb (some ⟨g, off, none⟩) L id till (.returned (.int .i64 0)) (W.setCell ⟨rb, 0, none⟩ r)) := ⟨fun r W ho hb =>
              HP'.out.fin j hjm HJ.out HOUT.out r W (by
                rw [cellsL_append]
                have e : cellsL ((id, till) :: L.drop j) = [.int .i64 id, .int .i64 till] ++ cellsL (L.drop j) := rfl
                rw [e, ← List.append_assoc]
                exact owns_base ho HP'.out.below.size) (HP'.out.below.trans (hb.mono HP'.out.below.size))⟩
            by_cases hc : c = j
            · have hN2 : Box (∀ W, Below wr.heap.size wr W → ∀ ad, some (⟨g, off, none⟩ : Addr) = some ad → ∀ i u, (cellsL (L.drop j))[i]? = some u → W.cell? (ad.add i) = some u) := ⟨fun W hb ad e i u hu => by
                have := (List.getElem?_eq_some_iff.1 hu).1
                have h2 := hl2.out
                omega⟩
              clear HP HP' HJ HOUT
              go_region_law (first | (refine step_append_any _ rfl (.const (.slice none 0 0)) (.tmp 58) 33 rfl wr.heap.size 75 i0 _ 2 16 Try.underlying33 hi0 hz0 hz1 hz2 rfl (by decide) (.slice none 0 0) 0 [] rfl (World.ownsRow_nil _ _ _ _) (some ⟨g, off, none⟩) j c (cellsL (L.take j)) (by simp [Act.eval, Act.put] <;> omega) hl1.out (fun e => by cases e) (hN1.out _ (by first | exact (Below.refl _ _).drew | exact (Below.refl _ _).drew.alloc (Nat.le_refl _) _)) (cellsL_one _) (by unfold maxLen; omega) (by omega) (by simp) ?_; intro v1 w1 ho1 hg1; have hb1 : Below wr.heap.size wr w1 := (by first | exact (Below.refl _ _).drew.grown hg1 (Nat.le_refl _) (fun k hk => by simp [Value.ownBlock] at hk) | exact ((Below.refl _ _).drew.alloc (Nat.le_refl _) _).grown hg1 (by simp) (fun k hk => by simp [Value.ownBlock] at hk))) | (refine step_append_any _ rfl (.tmp 59) (.tmp 63) 33 rfl wr.heap.size 75 i0 _ 2 16 Try.underlying33 hi0 hz0 hz1 hz2 rfl (by decide) v1 (0 + j) ([] ++ cellsL (L.take j)) (by simp [Act.eval]) (by first | exact ho1 | exact ho1.alloc _) _ 1 1 [.int .i64 id, .int .i64 till] rfl rfl (fun e => by cases e) (by intro ad e i u hu; injection e with e; subst e; first | exact World.news_of_block (new_block _ _) i u hu | exact World.news_of_block ((hg1.block wr.heap.size (by simp) (by simp [Value.ownBlock])).trans (new_block _ _)) i u hu) (by simp [Value.oneCell']) (by unfold maxLen; omega) (by omega) (by first | exact hb1.size | (rw [World.size_alloc]; have := hb1.size; omega)) ?_; intro v2 w2 ho2 hg2; have hb2 : Below wr.heap.size wr w2 := (by first | exact hb1.grown hg2 hb1.size (fun k hk => (ho1.lt k hk).1) | exact (hb1.alloc hb1.size _).grown hg2 (by rw [World.size_alloc]; have := hb1.size; omega) (fun k hk => (ho1.lt k hk).1))) | (refine step_append_any _ rfl (.tmp 64) (.tmp 67) 33 rfl wr.heap.size 75 i0 _ 2 16 Try.underlying33 hi0 hz0 hz1 hz2 rfl (by decide) v2 (0 + j + 1) (([] ++ cellsL (L.take j)) ++ [.int .i64 id, .int .i64 till]) (by simp [Act.eval]) ho2 (some ⟨g, off, none⟩) (n - j) 0 (cellsL (L.drop j)) (by simp [Act.eval] <;> omega) hl2.out (fun e => by cases e) (hN2.out _ hb2) (cellsL_one _) (by unfold maxLen; omega) (by omega) hb2.size ?_; intro v3 w3 ho3 hg3; have hb3 : Below wr.heap.size wr w3 := hb2.grown hg3 hb2.size (fun k hk => (ho2.lt k hk).1); have e3 : 0 + j + 1 + (n - j) = n + 1 := (by omega); rw [e3] at ho3; obtain ⟨ao4, c4, rfl⟩ := owns_slice ho3; have hq3 := HQ.out _ hb3; have hff := free_of hq3 0; have hcc : w3.cell? ⟨rb, 0, none⟩ = some (.slice (some ⟨g, off, none⟩) n c) := (cell_of hq3 0).trans rfl; have HE := Box.mk (HE0.out _ _ ho3 hb3); clear ho3 hg3 hq3 e3))
              all_goals
                go_wp2
                go_ret
                exact HE.out
            · have hN2 : Box (∀ W, Below wr.heap.size wr W → ∀ ad, some (⟨g, off + j * 2, none⟩ : Addr) = some ad → ∀ i u, (cellsL (L.drop j))[i]? = some u → W.cell? (ad.add i) = some u) := ⟨fun W hb ad e i u hu => by
                injection e with e; subst e
                exact (HP'.out.row.of hb).part j (M := L.drop j) (R := []) (by simp) (by have := HP'.out.len; omega) i u hu⟩
              clear HP HP' HJ HOUT
              go_region_law (first | (refine step_append_any _ rfl (.const (.slice none 0 0)) (.tmp 58) 33 rfl wr.heap.size 75 i0 _ 2 16 Try.underlying33 hi0 hz0 hz1 hz2 rfl (by decide) (.slice none 0 0) 0 [] rfl (World.ownsRow_nil _ _ _ _) (some ⟨g, off, none⟩) j c (cellsL (L.take j)) (by simp [Act.eval, Act.put] <;> omega) hl1.out (fun e => by cases e) (hN1.out _ (by first | exact (Below.refl _ _).drew | exact (Below.refl _ _).drew.alloc (Nat.le_refl _) _)) (cellsL_one _) (by unfold maxLen; omega) (by omega) (by simp) ?_; intro v1 w1 ho1 hg1; have hb1 : Below wr.heap.size wr w1 := (by first | exact (Below.refl _ _).drew.grown hg1 (Nat.le_refl _) (fun k hk => by simp [Value.ownBlock] at hk) | exact ((Below.refl _ _).drew.alloc (Nat.le_refl _) _).grown hg1 (by simp) (fun k hk => by simp [Value.ownBlock] at hk))) | (refine step_append_any _ rfl (.tmp 59) (.tmp 63) 33 rfl wr.heap.size 75 i0 _ 2 16 Try.underlying33 hi0 hz0 hz1 hz2 rfl (by decide) v1 (0 + j) ([] ++ cellsL (L.take j)) (by simp [Act.eval]) (by first | exact ho1 | exact ho1.alloc _) _ 1 1 [.int .i64 id, .int .i64 till] rfl rfl (fun e => by cases e) (by intro ad e i u hu; injection e with e; subst e; first | exact World.news_of_block (new_block _ _) i u hu | exact World.news_of_block ((hg1.block wr.heap.size (by simp) (by simp [Value.ownBlock])).trans (new_block _ _)) i u hu) (by simp [Value.oneCell']) (by unfold maxLen; omega) (by omega) (by first | exact hb1.size | (rw [World.size_alloc]; have := hb1.size; omega)) ?_; intro v2 w2 ho2 hg2; have hb2 : Below wr.heap.size wr w2 := (by first | exact hb1.grown hg2 hb1.size (fun k hk => (ho1.lt k hk).1) | exact (hb1.alloc hb1.size _).grown hg2 (by rw [World.size_alloc]; have := hb1.size; omega) (fun k hk => (ho1.lt k hk).1))) | (refine step_append_any _ rfl (.tmp 64) (.tmp 67) 33 rfl wr.heap.size 75 i0 _ 2 16 Try.underlying33 hi0 hz0 hz1 hz2 rfl (by decide) v2 (0 + j + 1) (([] ++ cellsL (L.take j)) ++ [.int .i64 id, .int .i64 till]) (by simp [Act.eval]) ho2 (some ⟨g, off + j * 2, none⟩) (n - j) (c - j) (cellsL (L.drop j)) (by simp [Act.eval] <;> omega) hl2.out (fun e => by cases e) (hN2.out _ hb2) (cellsL_one _) (by unfold maxLen; omega) (by omega) hb2.size ?_; intro v3 w3 ho3 hg3; have hb3 : Below wr.heap.size wr w3 := hb2.grown hg3 hb2.size (fun k hk => (ho2.lt k hk).1); have e3 : 0 + j + 1 + (n - j) = n + 1 := (by omega); rw [e3] at ho3; obtain ⟨ao4, c4, rfl⟩ := owns_slice ho3; have hq3 := HQ.out _ hb3; have hff := free_of hq3 0; have hcc : w3.cell? ⟨rb, 0, none⟩ = some (.slice (some ⟨g, off, none⟩) n c) := (cell_of hq3 0).trans rfl; have HE := Box.mk (HE0.out _ _ ho3 hb3); clear ho3 hg3 hq3 e3))
              all_goals
                go_wp2
                go_ret
                exact HE.out
end Go.Proofs.Ytnnebkmjeigflaa.L
