/- LeaseSame: the walk. -/
import Derived.Test.YtnnebkmjeigflaaDuo
namespace Go.Proofs.Ytnnebkmjeigflaa.L
open Go.RowKit Go.Maps
attribute [local go_sem] least2_int least_two

/-- Two queues, the second empty. -/
def Some2 (w : World) (B pb qb : Nat) : Prop := ∃ L, Duo w 0 0 w B pb qb L [] ∧ L.Pairwise ltKV
theorem Duo.free {w0 w1 w : World} {b0 b1 B pb qb : Nat} {L M : List (Int × Int)} (h : Duo w0 b0 b1 w B pb qb L M) : Duo w1 0 0 w B pb qb L M := by
  obtain ⟨S, T, h1, h2, h3, _⟩ := h
  exact ⟨S, T, h1, h2, h3, fun k _ hk => absurd hk (Nat.not_lt_zero _)⟩
theorem apart_drop {L : List (Int × Int)} (h : ApartKV L) (i : Nat) (hi : i < L.length) : ∀ x ∈ L.drop (i + 1), x.1 ≠ L[i].1 := fun x hx => by
  unfold ApartKV at h
  rw [List.pairwise_iff_getElem] at h
  obtain ⟨j, hj, rfl⟩ := List.getElem_of_mem hx
  rw [List.length_drop] at hj
  rw [List.getElem_drop]
  exact (h i (i + 1 + j) hi (by omega) (by omega)).symm
theorem put_fresh {M : List (Int × Int)} {id : Int} (x : Int) (h1 : 1 ≤ id) (hM : ∀ p ∈ M, p.1 ≠ id) (hl : M.length < 1024) : putRes M id = 0 ∧ stepPut M id x = (id, x) :: M := by
  have hk : knownKV M id = false := by
    unfold knownKV
    rw [List.any_eq_false]
    intro p hp
    simpa using hM p hp
  have hr : putRes M id = 0 := by unfold putRes; rw [if_neg (by omega), hk, if_neg (by decide), if_pos hl]
  refine ⟨hr, ?_⟩
  unfold stepPut
  rw [hr, if_pos rfl, without_none hk]
theorem put_again {M : List (Int × Int)} {id : Int} (x t : Int) (h1 : 1 ≤ id) (hM : ∀ p ∈ M, p.1 ≠ id) : putRes ((id, x) :: M) id = 0 ∧ stepPut ((id, x) :: M) id t = (id, t) :: M := by
  have hk : knownKV ((id, x) :: M) id = true := by unfold knownKV; simp
  have hk' : knownKV M id = false := by
    unfold knownKV
    rw [List.any_eq_false]
    intro p hp
    simpa using hM p hp
  have hr : putRes ((id, x) :: M) id = 0 := by unfold putRes; rw [if_neg (by omega), hk, if_pos rfl]
  refine ⟨hr, ?_⟩
  unfold stepPut
  rw [hr, if_pos rfl]
  have : without ((id, x) :: M) id = without M id := by unfold without; simp
  rw [this, without_none hk']
theorem Live.apartKV {w : World} {B qb : Nat} {l : List (Int × Int)} (h : Live w B qb l) : ApartKV l := h.apart
set_option maxHeartbeats 4000000 in
set_option maxRecDepth 100000 in
theorem same_law (v : Value) (xs : List Act3) (w : World) (hx : ActRow w v xs) : Calls Try.prog 6 #[v] w fun e w' => e = .returned (.bool true) ∧ Below w.heap.size w w' := by
  have c0 := new_calls
  have c1 := fun W => short_calls v xs w W hx
  go_enter Try.func6, Try.ntmps6
  go_wp2_with (first | (go_at_call 8; refine (c0 w1).mono ?_; rintro e w2 ⟨qb, mq, rfl, hq2, hb2⟩) | (go_at_call 8; refine (c0 _).mono ?_; rintro e w1 ⟨pb, mp, rfl, hq1, hb1⟩) | (go_at_call 13; refine (c1 _).mono ?_; rintro e w3 ⟨rfl, ao, n, c, ys, rfl, hn, hl3, hlc, hok, hc⟩; have HN := Box.mk hn; have HOK := Box.mk hok; have HC := Box.mk hc; clear hn hok hc))
  have HQ : Box (Some2 w2 w.heap.size pb qb) := ⟨[], (new_duo (L := []) hq1 (.refl _) hb1 hq2 (.refl _) hb2).free, List.Pairwise.nil⟩
  have HB : Box (Below w.heap.size w w2) := ⟨hb1.trans (hb2.mono hb1.size)⟩
  clear hq1 hb1 hq2 hb2 c0 c1 hx
  go_loopg [6, 28] n (fun k v6 v28 wr => ∃ i : Nat, v28 = .int .i64 i ∧ Box (i + k = n) ∧ Box (Some2 wr w.heap.size pb qb) ∧ Box (Below w.heap.size w wr))
  case atStart => exact ⟨0, rfl, ⟨by omega⟩, HQ, HB⟩
  case round =>
    clear HQ
    obtain ⟨i, rfl, HK, HQ, HBr⟩ := hrel
    cases gk with
    | succ k1 =>
      have hlt : (i : Int) < n := by have := HK.out; omega
      have h0 : (0 : Int) ≤ i := by omega
      have hi : i < ys.length := by have := HK.out; have := HN.out; omega
      obtain ⟨a, rfl, x0, x1, x2⟩ := act_at (acts_past HBr.out HC.out) i hi
      have hok := HOK.out ys[i] (List.getElem_mem hi)
      obtain ⟨L, hq, hL⟩ := HQ.out
      have hbx : ∀ o, Below w.heap.size w (wr.alloc o) := fun o => HBr.out.alloc HBr.out.size o
      have c2 := fun o => does_duo ys[i] (hq.past ((Below.refl _ wr).alloc (Nat.le_refl _) o)) (hbx o).size hL hok
      have HL := Box.mk hL
      clear HC hok HQ hq hL
      go_wp2_with (first | (go_at_call 14; refine (c2 _).mono ?_; rintro e w3 ⟨r, rfl, hq3, hb3⟩; have HQ3 : Box (Some2 w3 w.heap.size pb qb) := ⟨_, hq3.free, doesL_sorted HL.out _⟩; have HB3 := Box.mk ((hbx _).trans hb3); clear hq3 hb3 c2))
      go_roundg k1
      case measure => omega
      case rel => exact ⟨i + 1, by go_num, ⟨by have := HK.out; omega⟩, HQ3, HB3⟩
    | zero =>
      have hlt : ¬ (i : Int) < n := by have := HK.out; omega
      obtain ⟨L, hq, hL⟩ := HQ.out
      have c2 := all_duo hq hL
      obtain ⟨l, hl⟩ : ∃ l, L.length = l := ⟨_, rfl⟩
      have hfew : l ≤ 1024 := by have := hq.live.few; omega
      have HLL := Box.mk hl
      have HL := Box.mk hL
      have HQ1 := Box.mk hq
      clear HC HK HOK HN HQ hq hL hl
      go_wp2_with (first | (go_at_call 11; refine c2.mono ?_; rintro e w4 ⟨ao2, cp2, rfl, hrow, hb4⟩; rw [HLL.out]; have HR := Box.mk hrow; have HD : Box (Duo w4 wr.heap.size w4.heap.size w4 w.heap.size pb qb L []) := ⟨HQ1.out.keep hb4⟩; have HB4 : Box (Below w.heap.size w w4) := ⟨HBr.out.trans (hb4.mono HBr.out.size)⟩; clear hrow hb4 c2))
      obtain ⟨b0, hb0⟩ : ∃ b0, wr.heap.size = b0 := ⟨_, rfl⟩
      rw [hb0] at HR HD
      clear HQ1 HBr hb0
      have HA : Box (ApartKV L) := ⟨HD.out.live.apart⟩
      have HW : Box (∀ p ∈ L, Wf p.1 ∧ Wf p.2 ∧ 1 ≤ p.1) := ⟨HD.out.wf⟩
      go_loopg [2, 8] l (fun k v2 v8 wq => v2 = .bool false ∧ ∃ z : Int, v8 = .int .i64 z ∧ Box (z + 1 = k ∧ k ≤ l) ∧ Box (∃ M, M.Perm (L.drop k) ∧ Duo w4 b0 w4.heap.size wq w.heap.size pb qb L M) ∧ Box (Below w.heap.size w wq))
      case atStart => exact ⟨rfl, _, rfl, ⟨by omega, Nat.le_refl _⟩, ⟨[], by rw [List.drop_of_length_le (by have := HLL.out; omega)], HD.out⟩, HB4⟩
      case round =>
        clear HD HB4
        obtain ⟨rfl, z, rfl, HK, HDM, HBr⟩ := hrel
        cases gk with
        | succ k1 =>
          obtain rfl : z = (k1 : Int) := by have := HK.out; omega
          have hkl : k1 < L.length := by have := HLL.out; have := HK.out; omega
          have hlt2 : (k1 : Int) < l := by have := HK.out; omega
          have h02 : (0 : Int) ≤ k1 := by omega
          obtain ⟨M, hM, hD⟩ := HDM.out
          obtain ⟨a2, rfl, x2⟩ := hD.row HR.out k1 hkl
          have c3 := until_duo L[k1] hD (List.getElem_mem hkl)
          have hmw := HW.out _ (List.getElem_mem hkl)
          have hMn : ∀ p ∈ M, p.1 ≠ L[k1].1 := fun p hp => apart_drop HA.out k1 hkl p (hM.mem_iff.1 hp)
          have hMl : M.length < 1024 := by have := hM.length_eq; rw [List.length_drop] at this; have := HLL.out; omega
          have hds : L.drop k1 = L[k1] :: L.drop (k1 + 1) := List.drop_eq_getElem_cons hkl
          have HFIN : Box (∀ W, Duo w4 b0 w4.heap.size W w.heap.size qb pb ((L[k1].1, L[k1].2) :: M) L → ∃ M, M.Perm (L.drop k1) ∧ Duo w4 b0 w4.heap.size W w.heap.size pb qb L M) := ⟨fun W h => ⟨_, by rw [hds]; exact hM.cons _, h.swap⟩⟩
          have HX : Box (∀ W N, Duo w4 b0 w4.heap.size W w.heap.size qb pb N L → W.cell? (a2.add k1) = some (.int .i64 L[k1].1)) := ⟨fun W N h => by
            obtain ⟨a, ea, ha⟩ := h.swap.row HR.out k1 hkl
            injection ea with ea
            rw [ea]; exact ha⟩
          have hwt := (wf_iff _).1 hmw.2.1
          generalize L[k1] = p at *
          clear hds
          by_cases ht : 1 < p.2
          · have hwx : Wf (p.2 - 1) := (wf_iff _).2 (by omega)
            have c4 := put_duo p.1 (p.2 - 1) hD.swap HBr.out.size hmw.1 hwx
            rw [(put_fresh (p.2 - 1) hmw.2.2 hMn hMl).1, (put_fresh (p.2 - 1) hmw.2.2 hMn hMl).2] at c4
            have c5 := fun W (h : Duo w4 b0 w4.heap.size W w.heap.size qb pb ((p.1, p.2 - 1) :: M) L) hB => put_duo p.1 p.2 h hB hmw.1 hmw.2.1
            rw [(put_again (p.2 - 1) p.2 hmw.2.2 hMn).1, (put_again (p.2 - 1) p.2 hmw.2.2 hMn).2] at c5
            clear hMn hM hD hmw hwx HDM HR
            go_wp2_with (first | (go_at_call 18; refine c3.mono ?_; rintro e w5 ⟨rfl, rfl⟩) | (go_at_call 9; refine (c5 _ HD6.out HB6.out.size).mono ?_; rintro e w7 ⟨rfl, hD7, hb7⟩; have HD7 := Box.mk hD7; have HB7 := Box.mk (HB6.out.trans hb7); clear hD7 hb7) | (go_at_call 9; refine c4.mono ?_; rintro e w6 ⟨rfl, hD6, hb6⟩; have x6 := HX.out _ _ hD6; have HD6 := Box.mk hD6; have HB6 := Box.mk (HBr.out.trans hb6); clear hD6 hb6))
            go_roundg k1
            case measure => omega
            case rel => exact ⟨rfl, _, rfl, ⟨by have := HK.out; omega⟩, ⟨HFIN.out _ HD7.out⟩, HB7⟩
          · have hwx : Wf 0 := (wf_iff _).2 (by omega)
            have c4 := put_duo p.1 0 hD.swap HBr.out.size hmw.1 hwx
            rw [(put_fresh 0 hmw.2.2 hMn hMl).1, (put_fresh 0 hmw.2.2 hMn hMl).2] at c4
            have c5 := fun W (h : Duo w4 b0 w4.heap.size W w.heap.size qb pb ((p.1, 0) :: M) L) hB => put_duo p.1 p.2 h hB hmw.1 hmw.2.1
            rw [(put_again 0 p.2 hmw.2.2 hMn).1, (put_again 0 p.2 hmw.2.2 hMn).2] at c5
            clear hMn hM hD hmw hwx HDM HR
            go_wp2_with (first | (go_at_call 18; refine c3.mono ?_; rintro e w5 ⟨rfl, rfl⟩) | (go_at_call 9; refine (c5 _ HD6.out HB6.out.size).mono ?_; rintro e w7 ⟨rfl, hD7, hb7⟩; have HD7 := Box.mk hD7; have HB7 := Box.mk (HB6.out.trans hb7); clear hD7 hb7) | (go_at_call 9; refine c4.mono ?_; rintro e w6 ⟨rfl, hD6, hb6⟩; have x6 := HX.out _ _ hD6; have HD6 := Box.mk hD6; have HB6 := Box.mk (HBr.out.trans hb6); clear hD6 hb6))
            go_roundg k1
            case measure => omega
            case rel => exact ⟨rfl, _, rfl, ⟨by have := HK.out; omega⟩, ⟨HFIN.out _ HD7.out⟩, HB7⟩
        | zero =>
          obtain rfl : z = -1 := by have := HK.out; omega
          have c9 := alive_calls
          have hll : (((l : Nat) : Int) != ((l : Nat) : Int)) = false := by simp
          have HD : Box (Duo w4 b0 w4.heap.size wr w.heap.size pb qb L L) := ⟨by
            obtain ⟨M, hM, hD⟩ := HDM.out
            exact hD.repl (.refl _) hM⟩
          have HI : Box (∀ W ao3 cp3, Row W wr.heap.size ao3 L → Below wr.heap.size wr W → Calls Try.prog 20 #[.slice ao3 l cp3, .slice ao2 l cp2] W fun e w' => e = .returned (.bool true) ∧ ∃ n, w' = W.drewN n) := ⟨fun W ao3 cp3 h hb => by
            rw [← HLL.out]
            exact ints_same (h W fun _ _ _ => rfl) ((HD.out.past hb).row HR.out) (by have := HLL.out; omega)⟩
          have c6 := all_duo HD.out.swap HL.out
          rw [HLL.out] at c6
          have cP : ∀ x, x = pb ∨ x = qb → ∀ W, Below wr.heap.size wr W → Calls Try.prog 10 #[.pointer (some ⟨x, 0, none⟩)] W fun e w' => e = .returned (.int .i64 l) ∧ W = w' := by
            rintro x (rfl | rfl) W hb
            · exact qlen_of l HLL.out (HD.out.past hb)
            · exact qlen_of l HLL.out (HD.out.swap.past hb)
          clear HDM HR HA HK
          go_wp2_with (first | (go_at_call 11; refine c6.mono ?_; rintro e w5 ⟨ao3, cp3, rfl, hrow3, hb5⟩; have hI := HI.out _ _ cp3 hrow3 hb5; have HB5 := Box.mk hb5; clear hrow3 hb5) | (go_at_call 20; refine hI.mono ?_; rintro e w6 ⟨rfl, nI, rfl⟩) | (go_at_call 10; refine (cP _ (by first | exact .inl rfl | exact .inr rfl) _ (below_drewN HB5.out nI)).mono ?_; rintro e w7 ⟨rfl, rfl⟩))
          have HD5 : Box (Duo w4 0 0 (w5.drewN nI) w.heap.size pb qb L L) := ⟨(HD.out.past (below_drewN HB5.out nI)).free⟩
          have HB6 : Box (Below w.heap.size w (w5.drewN nI)) := ⟨HBr.out.trans ((below_drewN HB5.out nI).mono HBr.out.size)⟩
          clear HD HI hI c6 cP HB5 HBr
          go_loopg [2, 89] l (fun k v2 v89 wq => v2 = .bool false ∧ ∃ i : Nat, v89 = .int .i64 i ∧ Box (i + k = l) ∧ Box (∃ R, R.Pairwise ltKV ∧ (i < l → R ≠ []) ∧ Duo w4 0 0 wq w.heap.size pb qb R R) ∧ Box (Below w.heap.size w wq))
          case atStart => exact ⟨rfl, 0, rfl, ⟨by omega⟩, ⟨L, HL.out, fun h e => (by have := HLL.out; rw [e] at this; simp at this; omega), HD5.out⟩, HB6⟩
          case round =>
            clear HD5 HB6
            obtain ⟨rfl, i3, rfl, HK, HDR, HBr⟩ := hrel
            cases gk with
            | succ k3 =>
              have hlt3 : (i3 : Int) < l := by have := HK.out; omega
              have h03 : (0 : Int) ≤ i3 := by omega
              obtain ⟨R, hRS, hRN, hD⟩ := HDR.out
              obtain ⟨p, R', rfl⟩ := List.exists_cons_of_ne_nil (hRN (by have := HK.out; omega))
              have cF : ∀ x, x = pb ∨ x = qb → ∀ W, Below wr.heap.size wr W → Calls Try.prog 16 #[.pointer (some ⟨x, 0, none⟩)] W fun e w' => e = .returned (.tuple #[.int .i64 p.1, .int .i64 p.2, .bool true]) ∧ ∃ n, w' = W.drewN n := by
                rintro x (rfl | rfl) W hb
                · exact first_duo p (hD.past hb) hRS
                · exact first_duo p (hD.swap.past hb) hRS
              have cD := fun W (hb : Below wr.heap.size wr W) => due_duo p.2 (hD.past (w' := W) hb) (Nat.le_trans HBr.out.size hb.size) hRS
              have hSo : (dueOut (p :: R') p.2).Pairwise ltKV := dueOut_sorted hRS _
              have hp1 : (p.1 != p.1) = false := by simp
              have hp2 : (p.2 != p.2) = false := by simp
              obtain ⟨p1, p2⟩ := p
              dsimp only at *
              unfold Due2 at cD
              generalize (dueIn ((p1, p2) :: R') p2).length = d at *
              generalize dueOut ((p1, p2) :: R') p2 = R at *
              obtain ⟨s, hs⟩ : ∃ s, R.length = s := ⟨_, rfl⟩
              have cL : ∀ x, x = pb ∨ x = qb → ∀ W, Duo w4 0 0 W w.heap.size pb qb R R → Calls Try.prog 10 #[.pointer (some ⟨x, 0, none⟩)] W fun e w' => e = .returned (.int .i64 s) ∧ W = w' := by
                rintro x (rfl | rfl) W h
                · exact qlen_of s hs h
                · exact qlen_of s hs h.swap
              have cA := fun W (h : Duo w4 0 0 W w.heap.size pb qb R R) => all_both s hs h hSo
              unfold All2 at cA
              have hss : ((s : Int) != (s : Int)) = false := by simp
              have HS := Box.mk hs
              have HSO := Box.mk hSo
              clear hRS hRN hD HDR hs hSo
              by_cases hz : s = 0
              · have hz1 : ((s : Int) == 0) = true := by simp [hz]
                clear hz
                go_wp2_with (first | (go_at_call 16; refine (cF _ (by first | exact .inl rfl | exact .inr rfl) _ (by first | exact Below.refl _ _ | exact below_drewN (Below.refl _ _) _)).mono ?_; rintro e w6 ⟨rfl, nA, rfl⟩) | (go_at_call 22; refine c7.mono ?_; rintro e w9 ⟨ao5, cp5, rfl, hD9, hb9, c8⟩; have HD9 := Box.mk hD9; have HB9 := Box.mk hb9; clear hD9 hb9 c7) | (go_at_call 22; refine (cD _ (below_drewN (Below.refl _ _) _)).mono ?_; rintro e w8 ⟨ao4, cp4, rfl, c7⟩) | (go_at_call 20; refine c13.mono ?_; rintro e wC ⟨rfl, nD, rfl⟩) | (go_at_call 20; refine c8.mono ?_; rintro e w10 ⟨rfl, nC, rfl⟩) | (go_at_call 10; refine (cL _ (by first | exact .inl rfl | exact .inr rfl) _ (HD9.out.past (below_drewN (Below.refl _ _) nC))).mono ?_; rintro e w11 ⟨rfl, rfl⟩) | (go_at_call 11; refine c12.mono ?_; rintro e wB ⟨aoB, cpB, rfl, hbB, c13⟩) | (go_at_call 11; refine (cA _ (HD9.out.past (below_drewN (Below.refl _ _) nC))).mono ?_; rintro e wA ⟨aoA, cpA, rfl, c12⟩) | (go_at_call 12; refine (c9 _).mono ?_; rintro e wD ⟨rfl, hbD⟩))
                go_ret
                have h1 : Below w.heap.size w (w9.drewN nC) := below_drewN ((below_drewN HBr.out _).trans HB9.out) _
                have h2 : Below w.heap.size w (wB.drewN nD) := below_drewN (h1.trans (hbB.mono h1.size)) _
                exact ⟨rfl, h2.trans (hbD.mono h2.size)⟩
              · have hz1 : ((s : Int) == 0) = false := by simp [hz]
                have HZ := Box.mk hz
                clear hz
                go_wp2_with (first | (go_at_call 16; refine (cF _ (by first | exact .inl rfl | exact .inr rfl) _ (by first | exact Below.refl _ _ | exact below_drewN (Below.refl _ _) _)).mono ?_; rintro e w6 ⟨rfl, nA, rfl⟩) | (go_at_call 22; refine c7.mono ?_; rintro e w9 ⟨ao5, cp5, rfl, hD9, hb9, c8⟩; have HD9 := Box.mk hD9; have HB9 := Box.mk hb9; clear hD9 hb9 c7) | (go_at_call 22; refine (cD _ (below_drewN (Below.refl _ _) _)).mono ?_; rintro e w8 ⟨ao4, cp4, rfl, c7⟩) | (go_at_call 20; refine c8.mono ?_; rintro e w10 ⟨rfl, nC, rfl⟩) | (go_at_call 10; refine (cL _ (by first | exact .inl rfl | exact .inr rfl) _ (HD9.out.past (below_drewN (Below.refl _ _) nC))).mono ?_; rintro e w11 ⟨rfl, rfl⟩))
                go_roundg k3
                case measure => omega
                case rel => exact ⟨rfl, i3 + 1, by go_num, ⟨by have := HK.out; omega⟩, ⟨R, HSO.out, fun _ e => HZ.out (by rw [← HS.out, e]; rfl), HD9.out.past (below_drewN (Below.refl _ _) nC)⟩, ⟨below_drewN ((below_drewN HBr.out _).trans HB9.out) _⟩⟩
            | zero =>
              have hlt3 : ¬ (i3 : Int) < l := by have := HK.out; omega
              obtain ⟨R, hRS, hRN, hD⟩ := HDR.out
              obtain ⟨s, hs⟩ : ∃ s, R.length = s := ⟨_, rfl⟩
              have cA := all_both s hs hD hRS
              unfold All2 at cA
              clear hRS hRN hD HDR hs HK
              go_wp2_with (first | (go_at_call 20; refine c13.mono ?_; rintro e wC ⟨rfl, nD, rfl⟩) | (go_at_call 11; refine c12.mono ?_; rintro e wB ⟨aoB, cpB, rfl, hbB, c13⟩) | (go_at_call 11; refine cA.mono ?_; rintro e wA ⟨aoA, cpA, rfl, c12⟩) | (go_at_call 12; refine (c9 _).mono ?_; rintro e wD ⟨rfl, hbD⟩))
              go_ret
              exact ⟨rfl, (HBr.out.trans (below_drewN (hbB.mono HBr.out.size) _)).trans (hbD.mono (by have := HBr.out.size; have := hbB.size; simp at *; omega))⟩
end Go.Proofs.Ytnnebkmjeigflaa.L
