/- LeaseDue: the walk. -/
import Derived.Test.YtnnebkmjeigflaaTills
namespace Go.Proofs.Ytnnebkmjeigflaa.L
open Go.RowKit Go.Maps

/-- Some queue. -/
def Some1 (w : World) (B qb : Nat) : Prop := ∃ L, LiveS w B qb L
set_option maxHeartbeats 4000000 in
set_option maxRecDepth 100000 in
theorem due_law (v : Value) (xs : List Act3) (now : Int) (w : World) (hx : ActRow w v xs) : Calls Try.prog 5 #[v, .int .i64 now] w fun e w' => e = .returned (.bool true) ∧ Below w.heap.size w w' := by
  have c0 := new_live w
  have c1 := fun W => short_calls v xs w W hx
  go_enter Try.func5, Try.ntmps5
  go_wp2_with (first | (go_at_call 8; refine c0.mono ?_; rintro e w1 ⟨qb, rfl, hq1, hb1⟩) | (go_at_call 13; refine (c1 _).mono ?_; rintro e w2 ⟨rfl, ao, n, c, ys, rfl, hn, hl3, hlc, hok, hc⟩; have HN := Box.mk hn; have HOK := Box.mk hok; have HC := Box.mk hc; clear hn hok hc))
  have HQ : Box (Some1 w1 w.heap.size qb) := ⟨_, hq1, List.Pairwise.nil⟩
  have HB := Box.mk hb1
  clear hq1 hb1 c0 c1 hx
  go_loopg [7, 29] n (fun k v7 v29 wr => ∃ i : Nat, v29 = .int .i64 i ∧ Box (i + k = n) ∧ Box (Some1 wr w.heap.size qb) ∧ Box (Below w.heap.size w wr))
  case atStart => exact ⟨0, rfl, ⟨by omega⟩, HQ, HB⟩
  case round =>
    clear HQ
    obtain ⟨i, rfl, HK, HQ, HBr⟩ := hrel
    cases gk with
    | succ k1 =>
      have hlt : (i : Int) < n := by have := HK.out; omega
      have h0 : (0 : Int) ≤ i := by omega
      have hi : i < ys.length := by have := HK.out; have := HN.out; omega
      obtain ⟨a, rfl, x0, x1, x2⟩ := act_at (acts_past HBr.out HC.out) i hi
      have hok := HOK.out ys[i] (List.getElem_mem hi)
      obtain ⟨L, hq, hL⟩ := HQ.out
      have hbx : ∀ o, Below w.heap.size w (wr.alloc o) := fun o => HBr.out.alloc HBr.out.size o
      have c2 := fun o => does_live w.heap.size qb L L ys[i] (wr.alloc o) (hq.past ((Below.refl _ wr).alloc (Nat.le_refl _) o)) (hbx o).size ⟨.refl _, hL⟩ hok
      have HL := Box.mk hL
      clear HC hok HQ hq hL
      go_wp2_with (first | (go_at_call 14; refine (c2 _).mono ?_; rintro e w3 ⟨r, rfl, -, hq3, hb3⟩; have HQ3 : Box (Some1 w3 w.heap.size qb) := ⟨_, hq3, doesL_sorted HL.out _⟩; have HB3 := Box.mk ((hbx _).trans hb3); clear hq3 hb3 c2))
      go_roundg k1
      case measure => omega
      case rel => exact ⟨i + 1, by go_num, ⟨by have := HK.out; omega⟩, HQ3, HB3⟩
    | zero =>
      have hlt : ¬ (i : Int) < n := by have := HK.out; omega
      obtain ⟨L, ⟨m, v, es, hq, hp⟩, hL⟩ := HQ.out
      have HP := Box.mk hp
      have HL := Box.mk hL
      have hb1 : ∀ o, Below wr.heap.size wr (wr.alloc o) := fun o => (Below.refl _ wr).alloc (Nat.le_refl _) o
      have c2 := fun o => all_calls w.heap.size qb m v es L (wr.alloc o) (hq.past (hb1 o)) ⟨hp.symm, hL⟩
      obtain ⟨l, hl⟩ : ∃ l, L.length = l := ⟨_, rfl⟩
      have hfew : l ≤ 1024 := by have := hp.length_eq; rw [List.length_map] at this; have := hq.few; omega
      have HLL := Box.mk hl
      have HQ1 := Box.mk hq
      have hmm := @run_makeMap Try.prog
      clear HC HK HOK HN HQ hq hp hL hl
      go_wp2_with (first | (go_at_call 11; refine (c2 _).mono ?_; rintro e w4 ⟨r, rfl, ho, hb4⟩; obtain ⟨ao2, cp2, rfl, hrow⟩ := row_open ho; rw [HLL.out]; have HR := Box.mk hrow; have HB4 := Box.mk hb4; clear hrow ho hb4 c2))
      obtain ⟨mb, hmb⟩ : ∃ mb, wr.heap.size = mb := ⟨_, rfl⟩
      have hmsz : (wr.alloc (.map #[] 0)).heap.size = mb + 1 := by rw [World.size_alloc, hmb]
      rw [hmsz] at HR HB4
      have HK4 : Box (Kmap Try.prog 3 w4 mb 0 (fun _ => none)) := ⟨by
        rw [← hmb]
        refine (Kmap.made wr Try.prog 3).of (HB4.out.block _ (by omega))⟩
      have HQ4 : Box (Que w4 w.heap.size qb m v es) := ⟨(HQ1.out.past (hb1 (.map #[] 0))).past (by rw [hmsz]; exact HB4.out)⟩
      have HM : Box (w.heap.size ≤ mb ∧ mb < w4.heap.size ∧ ∀ k, Que.Foot qb m v es k → k ≠ mb) := ⟨by have := HBr.out.size; omega, by have := HB4.out.size; rw [hmsz] at this; omega, fun k hk => by have := (HQ1.out.foot_base hk).2; omega⟩
      have HBW : Box (Below w.heap.size w w4) := ⟨(HBr.out.trans ((hb1 (.map #[] 0)).mono HBr.out.size)).trans (HB4.out.mono (by have := HBr.out.size; omega))⟩
      rw [hmb]
      clear hb1 HB4 HQ1 hmsz hmb HBr
      go_loopg [4, 41] l (fun k v4 v41 wq => v4 = .bool false ∧ ∃ i : Nat, v41 = .int .i64 i ∧ Box (i + k = l) ∧ Box (∃ f, Kmap Try.prog 3 wq mb i f ∧ Tills f (L.take i)) ∧ Box (Frame (fun k => k = mb) w4 wq))
      case atStart => exact ⟨rfl, 0, rfl, ⟨by omega⟩, ⟨_, HK4.out, tills_nil⟩, ⟨Frame.refl _ _⟩⟩
      case round =>
        clear HK4
        obtain ⟨rfl, i2, rfl, HK, HKM, HF⟩ := hrel
        have HQ2 : Box (Que wr w.heap.size qb m v es) := ⟨HQ4.out.of fun k hk => HF.out.block k (HQ4.out.foot_base hk).2 (HM.out.2.2 k hk)⟩
        cases gk with
        | succ k2 =>
          have hlt2 : (i2 : Int) < l := by have := HK.out; omega
          have h02 : (0 : Int) ≤ i2 := by omega
          have hi2 : i2 < L.length := by have := HK.out; have := HLL.out; omega
          obtain ⟨a2, rfl, x2⟩ := HR.out.at HF.out (fun k hk => by rw [hk]; omega) i2 hi2
          obtain ⟨f, hkm, hft⟩ := HKM.out
          have hA := HQ2.out.apart
          have hmem : L[i2] ∈ L := List.getElem_mem hi2
          have hin := untilV_in hA HP.out hmem
          obtain ⟨e0, he0, hk0⟩ := List.mem_map.1 (HP.out.mem_iff.2 hmem)
          have hwf := HQ2.out.wf e0 he0
          have hwid : Wf L[i2].1 := by rw [← hk0]; exact hwf.1
          have c3 := until_calls w.heap.size qb m v es L[i2].1 wr HQ2.out hwid
          rw [hin] at c3
          have hnew : ∀ x ∈ L.take i2, x.1 ≠ L[i2].1 := apart_take (apart_of hA HP.out) i2 hi2
          have hnone := (hft _ hwid).2 hnew
          obtain ⟨w5, hst, hkm5, hturn⟩ := hkm.store keyed Try.underlying50 (by unfold maxLen; have := HK.out; omega) (val := .int .i64 L[i2].2) (key_of hwid)
          rw [hnone] at hkm5
          simp only [Option.isSome_none, Bool.false_eq_true, if_false] at hkm5
          have HKM5 : Box (∃ f, Kmap Try.prog 3 w5 mb (i2 + 1) f ∧ Tills f (L.take (i2 + 1))) := ⟨_, hkm5, by rw [List.take_succ_eq_append_getElem hi2]; exact tills_step hft hnew⟩
          have HF5 : Box (Frame (fun k => k = mb) w4 w5) := ⟨HF.out.then (turned_frame hturn).1 (fun _ _ s => s)⟩
          clear hkm hft hA hmem hin he0 hk0 hwf hwid hnew hnone hkm5 hturn HKM HR
          go_wp2_with (first | (go_at_call 18; refine c3.mono ?_; rintro e w6 ⟨rfl, rfl⟩))
          go_roundg k2
          case measure => omega
          case rel => exact ⟨rfl, i2 + 1, by go_num, ⟨by have := HK.out; omega⟩, HKM5, HF5⟩
        | zero =>
          have hlt2 : ¬ (i2 : Int) < l := by have := HK.out; omega
          obtain rfl : i2 = l := by have := HK.out; omega
          have hlen : es.length = i2 := by have := HP.out.length_eq; rw [List.length_map] at this; have := HLL.out; omega
          have c3 := qlen_calls w.heap.size qb m v es wr HQ2.out
          rw [hlen] at c3
          have c4 := due_calls w.heap.size qb m v es L now wr HQ2.out ⟨HP.out.symm, HL.out⟩
          have HKM2 : Box (∃ f, Kmap Try.prog 3 wr mb i2 f ∧ Tills f L) := ⟨by have := HKM.out; rwa [List.take_of_length_le (by have := HLL.out; omega)] at this⟩
          have HBX : Box (Below w.heap.size w wr) := ⟨HBW.out.trans (HF.out.below HBW.out.size (fun k hk => by rw [hk]; exact HM.out.1))⟩
          have HA : Box (ApartKV L) := ⟨apart_of HQ2.out.apart HP.out⟩
          have HWF : Box (∀ p ∈ L, Wf p.1) := ⟨fun p hp => by
            obtain ⟨e0, he0, hk0⟩ := List.mem_map.1 (HP.out.mem_iff.2 hp)
            rw [← hk0]; exact (HQ2.out.wf e0 he0).1⟩
          have ML : Box (mb < wr.heap.size) := ⟨by have := HM.out; have := HF.out.size; omega⟩
          clear HKM HF HBW HR hlen HQ4
          go_wp2_with (first | (go_at_call 10; refine c3.mono ?_; rintro e w6 ⟨rfl, rfl⟩) | (go_at_call 22; refine c4.mono ?_; rintro e w5 ⟨r2, rfl, ho2, v5, es5, hT⟩; obtain ⟨ao3, cp3, rfl, hrow3⟩ := row_open ho2; have HR3 := Box.mk hrow3; have HT := Box.mk hT; clear hrow3 ho2 hT))
          have HKM5 : Box (∃ f, Kmap Try.prog 3 w5 mb i2 f ∧ Tills f L) := ⟨by
            obtain ⟨f, h1, h2⟩ := HKM2.out
            exact ⟨f, h1.of (HT.out.frame.block mb ML.out (fun h => HM.out.2.2 mb h rfl)), h2⟩⟩
          have HB5 : Box (Below w.heap.size w w5) := ⟨HBX.out.trans (HT.out.frame.below HBX.out.size (fun k hk => (HQ2.out.foot_base hk).1))⟩
          have HQ5 : Box (Que w5 w.heap.size qb m v5 es5) := ⟨HT.out.que⟩
          have HP5 := Box.mk HT.out.perm
          have ML5 : Box (mb < w5.heap.size) := ⟨by have := HT.out.frame.size; have := ML.out; omega⟩
          have hDR : (L.takeWhile fun p => decide (p.2 ≤ now)) ++ (L.dropWhile fun p => decide (p.2 ≤ now)) = L := List.takeWhile_append_dropWhile
          have HDL : Box (∀ p ∈ (L.takeWhile fun p => decide (p.2 ≤ now)), p ∈ L ∧ p.2 ≤ now ∧ ∀ q ∈ (L.dropWhile fun p => decide (p.2 ≤ now)), q.1 ≠ p.1) := ⟨fun p hp => ⟨(List.takeWhile_sublist _).subset hp, take_early now p hp, fun q hq => apart_split HA.out now p hp q hq⟩⟩
          have HRL : Box (∀ p ∈ (L.dropWhile fun p => decide (p.2 ≤ now)), p ∈ L ∧ now < p.2) := ⟨fun p hp => ⟨(List.dropWhile_sublist _).subset hp, drop_late HL.out now p hp⟩⟩
          have HDS : Box ((L.takeWhile fun p => decide (p.2 ≤ now)).Pairwise ltKV) := ⟨HL.out.sublist (List.takeWhile_sublist _)⟩
          have HRS : Box ((L.dropWhile fun p => decide (p.2 ≤ now)).Pairwise ltKV) := ⟨HL.out.sublist (List.dropWhile_sublist _)⟩
          generalize (L.takeWhile fun p => decide (p.2 ≤ now)) = D at *
          generalize (L.dropWhile fun p => decide (p.2 ≤ now)) = R at *
          obtain ⟨d, hd⟩ : ∃ d, D.length = d := ⟨_, rfl⟩
          obtain ⟨s, hs⟩ : ∃ s, R.length = s := ⟨_, rfl⟩
          have hds : d + s = i2 := by have := HLL.out; rw [← hDR, List.length_append] at this; omega
          have hdf : d ≤ 1024 := by omega
          rw [hd]
          have HDN := Box.mk hd
          have HRN := Box.mk hs
          have HDS2 := Box.mk hds
          clear HKM2 HBX HQ2 HT ML HA hDR HL HLL HP hd hs hds c3 c4 HM HK
          go_loopg [4, 64] d (fun k v4 v64 wq => v4 = .bool false ∧ ∃ i : Nat, v64 = .int .i64 i ∧ Box (i + k = d) ∧ Box (Below w5.heap.size w5 wq))
          case atStart => exact ⟨rfl, 0, rfl, ⟨by omega⟩, ⟨Below.refl _ _⟩⟩
          case round =>
            obtain ⟨rfl, i3, rfl, HK, HF⟩ := hrel
            have HQ6 : Box (Que wr w.heap.size qb m v5 es5) := ⟨HQ5.out.past HF.out⟩
            cases gk with
            | succ k3 =>
              have hlt3 : (i3 : Int) < d := by have := HK.out; omega
              have h03 : (0 : Int) ≤ i3 := by omega
              have hi3 : i3 < D.length := by have := HK.out; have := HDN.out; omega
              have hrow := HR3.out.at (Frame.of_below (S := fun _ => False) HF.out) (fun k hk => hk.elim)
              obtain ⟨f, hkm, hft⟩ := HKM5.out
              have hkm := hkm.past HF.out
              have hmem := HDL.out D[i3] (List.getElem_mem hi3)
              have hwid := HWF.out _ hmem.1
              have hf1 := (hft _ hwid).1 _ hmem.1 rfl
              have hlook := hkm.look_ok keyed Try.underlying50 (Try.zeroValue3 wr) (key_of hwid)
              rw [hf1] at hlook
              have hlook' : (Instr.lookup 50 (.map (some mb)) (.int .i64 D[i3].1) true).run Try.prog wr = .ok (.tuple #[.int .i64 D[i3].2, .bool true]) wr := hlook
              have c5 := until_calls w.heap.size qb m v5 es5 D[i3].1 wr HQ6.out hwid
              rw [untilV_out HP5.out hmem.2.2] at c5
              have hnow : ¬ now < D[i3].2 := by have := hmem.2.1; omega
              by_cases hz : i3 = 0
              · obtain ⟨a3, rfl, x3⟩ := hrow i3 hi3
                have hpos : ¬ (0 : Int) < i3 := by omega
                clear hrow hkm hft hmem hwid hf1 hlook HR3 HKM5 hz
                go_wp2_with (first | (go_at_call 18; refine c5.mono ?_; rintro e w6 ⟨rfl, rfl⟩))
                go_roundg k3
                case measure => omega
                case rel => exact ⟨rfl, i3 + 1, by go_num, ⟨by have := HK.out; omega⟩, HF⟩
              · obtain ⟨j, hj1⟩ : ∃ j, i3 = j + 1 := ⟨i3 - 1, by omega⟩
                have hsub : (i3 : Int) - 1 = j := by omega
                have h0j : (0 : Int) ≤ j := by omega
                have hjd : (j : Int) < d := by omega
                have hj : j < D.length := by omega
                obtain ⟨a3, rfl, x3⟩ := hrow i3 hi3
                obtain ⟨a4, e4, x4⟩ := hrow j hj
                obtain rfl : a3 = a4 := by injection e4
                have hpos : (0 : Int) < i3 := by omega
                have hmem4 := HDL.out D[j] (List.getElem_mem hj)
                have hwid4 := HWF.out _ hmem4.1
                have hf4 := (hft _ hwid4).1 _ hmem4.1 rfl
                have hlook4 := hkm.look keyed Try.underlying50 (Try.zeroValue3 wr) (key_of hwid4)
                rw [hf4] at hlook4
                have hlook4' : (Instr.lookup 50 (.map (some mb)) (.int .i64 D[j].1) false).run Try.prog wr = .ok (.int .i64 D[j].2) wr := hlook4
                have hlt4 : ltKV D[j] D[i3] := by have := HDS.out; rw [List.pairwise_iff_getElem] at this; exact this j i3 hj hi3 (by omega)
                unfold ltKV at hlt4
                generalize D[i3] = p at *
                generalize D[j] = q at *
                clear hrow hkm hft hmem hwid hf1 hlook HR3 HKM5 hz e4 hmem4 hwid4 hf4 hlook4 hj1
                rcases hlt4 with h4 | ⟨h4, h5⟩
                · have g1 : ¬ p.2 < q.2 := by omega
                  have g2 : (q.2 == p.2) = false := by simp; omega
                  go_wp2_with (first | (go_at_call 18; refine c5.mono ?_; rintro e w6 ⟨rfl, rfl⟩))
                  go_roundg k3
                  case measure => omega
                  case rel => exact ⟨rfl, i3 + 1, by go_num, ⟨by have := HK.out; omega⟩, HF⟩
                · have g1 : ¬ p.2 < q.2 := by omega
                  have g2 : (q.2 == p.2) = true := by simp; omega
                  have g3 : ¬ p.1 ≤ q.1 := by omega
                  go_wp2_with (first | (go_at_call 18; refine c5.mono ?_; rintro e w6 ⟨rfl, rfl⟩))
                  go_roundg k3
                  case measure => omega
                  case rel => exact ⟨rfl, i3 + 1, by go_num, ⟨by have := HK.out; omega⟩, HF⟩
            | zero =>
              have hlt3 : ¬ (i3 : Int) < d := by have := HK.out; omega
              obtain rfl : i3 = d := by have := HK.out; omega
              have c6 := all_calls w.heap.size qb m v5 es5 R wr HQ6.out ⟨HP5.out.symm, HRS.out⟩
              have hsf : s ≤ 1024 := by have := HDS2.out; omega
              have HKM6 : Box (∃ f, Kmap Try.prog 3 wr mb i2 f ∧ Tills f L) := ⟨by
                obtain ⟨f, h1, h2⟩ := HKM5.out
                exact ⟨f, h1.past HF.out, h2⟩⟩
              have HB6 : Box (Below w.heap.size w wr) := ⟨HB5.out.trans (HF.out.mono HB5.out.size)⟩
              have hes5 : es5.length = s := by have := HP5.out.length_eq; rw [List.length_map] at this; have := HRN.out; omega
              have c7 := fun W hb => qlen_calls w.heap.size qb m v5 es5 W (HQ6.out.past hb)
              rw [hes5] at c7
              clear HKM5 HF HR3 HDN HDL HDS hes5 HP5 HRS
              go_wp2_with (first | (go_at_call 11; refine c6.mono ?_; rintro e w7 ⟨r4, rfl, ho4, hb7⟩; obtain ⟨ao4, cp4, rfl, hrow4⟩ := row_open ho4; rw [HRN.out]; have HR4 := Box.mk hrow4; have HB7 := Box.mk hb7; clear hrow4 ho4 hb7 c6))
              have HKM7 : Box (∃ f, Kmap Try.prog 3 w7 mb i2 f ∧ Tills f L) := ⟨by
                obtain ⟨f, h1, h2⟩ := HKM6.out
                exact ⟨f, h1.past HB7.out, h2⟩⟩
              have HBW7 : Box (Below w.heap.size w w7) := ⟨HB6.out.trans (HB7.out.mono HB6.out.size)⟩
              have c8 := fun W (hb : Below w7.heap.size w7 W) => c7 W (HB7.out.trans (hb.mono HB7.out.size))
              have c9 := alive_calls
              clear HKM6 HB6 c7 HB7
              go_loopg [4, 128] s (fun k v4 v128 wq => v4 = .bool false ∧ ∃ i : Nat, v128 = .int .i64 i ∧ Box (i + k = s) ∧ Box (Below w7.heap.size w7 wq))
              case atStart => exact ⟨rfl, 0, rfl, ⟨by omega⟩, ⟨Below.refl _ _⟩⟩
              case round =>
                obtain ⟨rfl, i4, rfl, HK, HF⟩ := hrel
                cases gk with
                | succ k4 =>
                  have hlt4 : (i4 : Int) < s := by have := HK.out; omega
                  have h04 : (0 : Int) ≤ i4 := by omega
                  have hi4 : i4 < R.length := by have := HK.out; have := HRN.out; omega
                  obtain ⟨a4, rfl, x4⟩ := HR4.out.at (Frame.of_below (S := fun _ => False) HF.out) (fun k hk => hk.elim) i4 hi4
                  obtain ⟨f, hkm, hft⟩ := HKM7.out
                  have hkm := hkm.past HF.out
                  have hmem := HRL.out R[i4] (List.getElem_mem hi4)
                  have hwid := HWF.out _ hmem.1
                  have hf1 := (hft _ hwid).1 _ hmem.1 rfl
                  have hlook := hkm.look keyed Try.underlying50 (Try.zeroValue3 wr) (key_of hwid)
                  rw [hf1] at hlook
                  have hlook' : (Instr.lookup 50 (.map (some mb)) (.int .i64 R[i4].1) false).run Try.prog wr = .ok (.int .i64 R[i4].2) wr := hlook
                  have hnow : ¬ R[i4].2 ≤ now := by have := hmem.2; omega
                  clear hkm hft hmem hwid hf1 hlook HR4 HKM7
                  go_wp2
                  go_roundg k4
                  case measure => omega
                  case rel => exact ⟨rfl, i4 + 1, by go_num, ⟨by have := HK.out; omega⟩, HF⟩
                | zero =>
                  have hlt4 : ¬ (i4 : Int) < s := by have := HK.out; omega
                  have hsum : (s : Int) + i3 = i2 := by have := HDS2.out; omega
                  have heq : (((i2 : Nat) : Int) == ((i2 : Nat) : Int)) = true := by simp
                  have c10 := c8 wr HF.out
                  clear c8 HR4 HKM7
                  go_wp2_with (first | (go_at_call 10; refine c10.mono ?_; rintro e w8 ⟨rfl, rfl⟩) | (go_at_call 12; refine (c9 _).mono ?_; rintro e w9 ⟨rfl, hb9⟩))
                  go_ret
                  exact ⟨rfl, (HBW7.out.trans (HF.out.mono HBW7.out.size)).trans (hb9.mono (by have := HBW7.out.size; have := HF.out.size; omega))⟩
end Go.Proofs.Ytnnebkmjeigflaa.L
