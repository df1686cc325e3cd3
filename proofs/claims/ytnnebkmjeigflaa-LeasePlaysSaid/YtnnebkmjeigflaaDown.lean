/- container/heap's down, over the queue's pile. -/
import Derived.Test.YtnnebkmjeigflaaUp
namespace Go.Proofs.Ytnnebkmjeigflaa.L
open Go.RowKit

/-- What down has come to: place i'. -/
structure DownTo (es es' : List Ent) (n i i' : Nat) : Prop where
  x : HeapX es' n i'
  same : i' = i → es' = es
  up : i < i' → UpOK es' i'
theorem DownTo.done {es es' : List Ent} {n i i' : Nat} (h : DownTo es es' n i i') (hd : DownOK es' n i') : (decide (i < i') = true → Heap es' n) ∧ (decide (i < i') = false → i' ≤ i → es' = es ∨ i' < i) :=
  ⟨fun e => .of h.x hd (fun _ => h.up (of_decide_eq_true e)), fun _ hle => by rcases Nat.lt_or_eq_of_le hle with h1 | h1; exact .inr h1; exact .inl (h.same h1)⟩
/-- What down hands back. -/
def DownPost (w w' : World) (B n i : Nat) (v : Value) (es : List Ent) (b : Bool) : Prop :=
  ∃ es', Moved w w' B n v es es' ∧ (b = true → Heap es' n) ∧ (b = false → es' = es ∧ DownOK es n i)
theorem down_end {w w' : World} {B n i i' : Nat} {v : Value} {es es' : List Ent} (hM : Moved w w' B n v es es') (h : DownTo es es' n i i') (hle : i ≤ i') (hd : DownOK es' n i') : DownPost w w' B n i v es (decide (i < i')) := by
  refine ⟨es', hM, fun e => ?_, fun e => ?_⟩
  · have : i < i' := of_decide_eq_true e
    exact .of h.x hd (fun _ => h.up this)
  · have e1 : i' = i := by have := of_decide_eq_false e; omega
    have e2 := h.same e1
    subst e1
    rw [e2] at hd
    exact ⟨e2, hd⟩
/-- .. as an end. -/
def DownEnd (w : World) (B n i : Nat) (v : Value) (es : List Ent) (e : Ending) (w' : World) : Prop := ∃ b, e = .returned (.bool b) ∧ DownPost w w' B n i v es b
theorem downOK_leaf {es : List Ent} {n i : Nat} (h : n ≤ 2 * i + 1) : DownOK es n i := fun k h0 hk e => by omega
theorem downOK_of {es : List Ent} {n i j : Nat} (hmin : ∀ c, (c = 2 * i + 1 ∨ c = 2 * i + 2) → c < n → leE es[j]! es[c]!) (h : leE es[i]! es[j]!) : DownOK es n i := fun k h0 hk e => leE_trans h (hmin k (by omega) hk)

set_option maxHeartbeats 2000000 in
set_option maxRecDepth 100000 in
theorem down_calls (qb B g cap l n i : Nat) (mp : Value) (es : List Ent) (w : World) (hq : QAt w qb (.slice (some ⟨g, 0, none⟩) l cap) mp) (hp : Pile w B (.slice (some ⟨g, 0, none⟩) l cap) es)
    (hl : l = es.length) (hn : n ≤ l) (hi : i < n) (hx : HeapX es n i) (hbig : l ≤ 1000000000000000000) :
    Calls Try.prog 35 #[.iface 65 (.pointer (some ⟨qb, 0, none⟩)), .int .i64 i, .int .i64 n] w (DownEnd w B n i (.slice (some ⟨g, 0, none⟩) l cap) es) := by
  have HQ := Box.mk hq
  have HP := Box.mk hp
  have HX := Box.mk hx
  have HL := Box.mk hl
  clear hq hp hx hl
  go_enter Try.func35, Try.ntmps35
  go_wp2
  go_loopg [7, 8, 9, 10] n (fun k v7 v8 v9 v10 w' => ∃ (i' : Nat) (es' : List Ent), v7 = .int .i64 i' ∧ i ≤ i' ∧ i' < n ∧ n ≤ i' + k ∧ Box (Moved w w' B n (.slice (some ⟨g, 0, none⟩) l cap) es es') ∧ Box (DownTo es es' n i i'))
  case atStart => exact ⟨i, es, rfl, Nat.le_refl _, hi, by omega, ⟨.refl HP.out⟩, ⟨HX.out, fun _ => rfl, fun h => absurd h (by omega)⟩⟩
  case round =>
    clear HX
    obtain ⟨i', es', rfl, hle, hin, hk, M, D⟩ := hrel
    have HQ1 := Box.mk (HQ.out.kept HP.out M.out.frame)
    have hL : l = es'.length := HL.out.trans M.out.length.symm
    have HL1 := Box.mk hL
    have hi0 : i' < es'.length := by omega
    clear HQ HP HL
    by_cases hj : n ≤ 2 * i' + 1
    · have E := Box.mk (down_end M.out D.out hle (downOK_leaf hj))
      clear hL
      go_wp2
      go_ret
      exact ⟨_, rfl, E.out⟩
    · have hj1 : 2 * i' + 1 < es'.length := by omega
      have hj1n : 2 * i' + 1 < n := by omega
      by_cases h2 : 2 * i' + 2 < n
      · have hj2 : 2 * i' + 2 < es'.length := by omega
        have c1 := fun W hb => less_calls B g l cap es' (2 * i' + 2) (2 * i' + 1) W (M.out.pile.past hb) hL hj2 hj1
        cases hv : lessE es'[2 * i' + 2] es'[2 * i' + 1] with
        | true =>
          obtain ⟨j, ej⟩ : ∃ j, 2 * i' + 2 = j := ⟨_, rfl⟩
          have EJ := Box.mk ej
          rw [hv] at c1
          have hmin : ∀ c, (c = 2 * i' + 1 ∨ c = 2 * i' + 2) → c < n → leE es'[j]! es'[c]! := by
            have hv' := leE_of_lt ((lessE_iff _ _).1 hv)
            rw [← getElem!_pos es' _ hj2, ← getElem!_pos es' _ hj1, ej] at hv'
            rintro c (rfl | rfl) _
            · exact hv'
            · rw [ej]; exact leE_refl _
          have HM := Box.mk hmin
          have hjl : j < es'.length := by omega
          have hjn : j < n := by omega
          have hjc : (2 * (i' : Int) + 1 + 1) = (j : Int) := by omega
          have c2 := fun W hb => less_calls B g l cap es' j i' W (M.out.pile.past hb) hL hjl hi0
          have hml := HQ1.out.less
          have g0 : (0 : Int) ≤ i' := by omega
          have g1 : (2 * (i' : Int) + 1) < n := by omega
          have g2 : (n : Int) ≤ 1000000000000000000 := by omega
          have g3 : decide (2 * (i' : Int) + 1 + 1 < n) = true := by simp; omega
          have e1 : ((2 * i' + 2 : Nat) : Int) = (j : Int) := by omega
          have e2 : ((2 * i' + 1 : Nat) : Int) = 2 * (i' : Int) + 1 := by omega
          rw [e1, e2] at c1
          clear hv e1 e2
          clear ej hL hmin hj hj1 hj1n h2 hj2
          cases hw : lessE es'[j] es'[i'] with
          | false =>
            rw [hw] at c2
            have HW := Box.mk hw
            clear hw
            go_wp2_with (first | (go_at_call_of 81 i'; (with_reducible refine (c2 _ hb).mono ?_); rintro e w3 ⟨rfl, hb3⟩; have hb4 := hb.trans (hb3.mono hb.size)) | (go_at_call 81; (with_reducible refine (c1 _ (Below.refl _ _)).mono ?_); rintro e w2 ⟨rfl, hb⟩; have hml2 := (HQ1.out.past hb).less))
            go_ret
            have hd : DownOK es' n i' := downOK_of HM.out (by rw [getElem!_pos es' i' hi0, getElem!_pos es' j hjl]; exact (lessE_false _ _).1 HW.out)
            exact ⟨_, rfl, down_end (M.out.past hb4) D.out hle hd⟩
          | true =>
            rw [hw] at c2
            have HW := Box.mk hw
            have c3 := fun W hb => swap_calls B g l cap es' i' j W (M.out.pile.past hb) HL1.out hi0 hjl (by have := EJ.out; omega)
            clear hw
            go_wp2_with (first | (go_at_call_of 81 i'; (with_reducible refine (c2 _ hb).mono ?_); rintro e w3 ⟨rfl, hb3⟩; have hb4 := hb.trans (hb3.mono hb.size); have hms := (HQ1.out.past hb4).swap) | (go_at_call 81; (with_reducible refine (c1 _ (Below.refl _ _)).mono ?_); rintro e w2 ⟨rfl, hb⟩; have hml2 := (HQ1.out.past hb).less) | (go_at_call 82; refine (c3 _ hb4).mono ?_; rintro e w5 ⟨rfl, hp5, hf5, hz5⟩))
            go_roundg (gk - 1)
            case measure => omega
            case rel =>
              have hlt : ltE es'[j]! es'[i']! := by rw [getElem!_pos es' j hjl, getElem!_pos es' i' hi0]; exact (lessE_iff _ _).1 HW.out
              have hL1 := HL1.out
              have hJ := EJ.out
              have st := down_step (n := n) (by omega) D.out.x (by omega) hjn HM.out hlt
              exact ⟨j, swapL es' i' j, by first | rfl | rw [hjc], by omega, hjn, by omega, ⟨(M.out.past hb4).swap hi0 hjl hin hjn hp5 hf5⟩, ⟨st.1, fun h => absurd h (by omega), fun _ => st.2⟩⟩
        | false =>
          obtain ⟨j, ej⟩ : ∃ j, 2 * i' + 1 = j := ⟨_, rfl⟩
          have EJ := Box.mk ej
          rw [hv] at c1
          have hmin : ∀ c, (c = 2 * i' + 1 ∨ c = 2 * i' + 2) → c < n → leE es'[j]! es'[c]! := by
            have hv' := (lessE_false _ _).1 hv
            rw [← getElem!_pos es' _ hj1, ← getElem!_pos es' _ hj2, ej] at hv'
            rintro c (rfl | rfl) _
            · rw [ej]; exact leE_refl _
            · exact hv'
          have HM := Box.mk hmin
          have hjl : j < es'.length := by omega
          have hjn : j < n := by omega
          have hjc : (2 * (i' : Int) + 1) = (j : Int) := by omega
          have c2 := fun W hb => less_calls B g l cap es' j i' W (M.out.pile.past hb) hL hjl hi0
          have hml := HQ1.out.less
          have g0 : (0 : Int) ≤ i' := by omega
          have g1 : (j : Int) < n := by omega
          have g5 : (0 : Int) ≤ j := by omega
          have g2 : (n : Int) ≤ 1000000000000000000 := by omega
          have g3 : decide ((j : Int) + 1 < n) = true := by simp; omega
          have e1 : ((2 * i' + 2 : Nat) : Int) = (j : Int) + 1 := by omega
          have e2 : ((2 * i' + 1 : Nat) : Int) = (j : Int) := by omega
          rw [e1, e2] at c1
          clear hv e1 e2
          clear ej hL hmin hj hj1 hj1n h2 hj2
          cases hw : lessE es'[j] es'[i'] with
          | false =>
            rw [hw] at c2
            have HW := Box.mk hw
            clear hw
            go_wp2_with (first | (go_at_call_of 81 i'; (with_reducible refine (c2 _ hb).mono ?_); rintro e w3 ⟨rfl, hb3⟩; have hb4 := hb.trans (hb3.mono hb.size)) | (go_at_call 81; (with_reducible refine (c1 _ (Below.refl _ _)).mono ?_); rintro e w2 ⟨rfl, hb⟩; have hml2 := (HQ1.out.past hb).less))
            go_ret
            have hd : DownOK es' n i' := downOK_of HM.out (by rw [getElem!_pos es' i' hi0, getElem!_pos es' j hjl]; exact (lessE_false _ _).1 HW.out)
            exact ⟨_, rfl, down_end (M.out.past hb4) D.out hle hd⟩
          | true =>
            rw [hw] at c2
            have HW := Box.mk hw
            have c3 := fun W hb => swap_calls B g l cap es' i' j W (M.out.pile.past hb) HL1.out hi0 hjl (by have := EJ.out; omega)
            clear hw
            go_wp2_with (first | (go_at_call_of 81 i'; (with_reducible refine (c2 _ hb).mono ?_); rintro e w3 ⟨rfl, hb3⟩; have hb4 := hb.trans (hb3.mono hb.size); have hms := (HQ1.out.past hb4).swap) | (go_at_call 81; (with_reducible refine (c1 _ (Below.refl _ _)).mono ?_); rintro e w2 ⟨rfl, hb⟩; have hml2 := (HQ1.out.past hb).less) | (go_at_call 82; refine (c3 _ hb4).mono ?_; rintro e w5 ⟨rfl, hp5, hf5, hz5⟩))
            go_roundg (gk - 1)
            case measure => omega
            case rel =>
              have hlt : ltE es'[j]! es'[i']! := by rw [getElem!_pos es' j hjl, getElem!_pos es' i' hi0]; exact (lessE_iff _ _).1 HW.out
              have hL1 := HL1.out
              have hJ := EJ.out
              have st := down_step (n := n) (by omega) D.out.x (by omega) hjn HM.out hlt
              exact ⟨j, swapL es' i' j, by first | rfl | rw [hjc], by omega, hjn, by omega, ⟨(M.out.past hb4).swap hi0 hjl hin hjn hp5 hf5⟩, ⟨st.1, fun h => absurd h (by omega), fun _ => st.2⟩⟩
      · -- one child
        obtain ⟨j, ej⟩ : ∃ j, 2 * i' + 1 = j := ⟨_, rfl⟩
        have EJ := Box.mk ej
        have hmin : ∀ c, (c = 2 * i' + 1 ∨ c = 2 * i' + 2) → c < n → leE es'[j]! es'[c]! := by
          rintro c (rfl | rfl) hc
          · rw [ej]; exact leE_refl _
          · omega
        have HM := Box.mk hmin
        have hjl : j < es'.length := by omega
        have hjn : j < n := by omega
        have hjc : (2 * (i' : Int) + 1) = (j : Int) := by omega
        have c2 := fun W hb => less_calls B g l cap es' j i' W (M.out.pile.past hb) hL hjl hi0
        have hml := HQ1.out.less
        have g0 : (0 : Int) ≤ i' := by omega
        have g1 : (j : Int) < n := by omega
        have g5 : (0 : Int) ≤ j := by omega
        have g2 : (n : Int) ≤ 1000000000000000000 := by omega
        have g3 : decide ((j : Int) + 1 < n) = false := by simp; omega
        clear ej hL hmin hj hj1 hj1n h2
        cases hw : lessE es'[j] es'[i'] with
        | false =>
          rw [hw] at c2
          have HW := Box.mk hw
          clear hw
          go_wp2_with (first | (go_at_call 81; refine (c2 _ (Below.refl _ _)).mono ?_; rintro e w3 ⟨rfl, hb4⟩))
          go_ret
          have hd : DownOK es' n i' := downOK_of HM.out (by rw [getElem!_pos es' i' hi0, getElem!_pos es' j hjl]; exact (lessE_false _ _).1 HW.out)
          exact ⟨_, rfl, down_end (M.out.past hb4) D.out hle hd⟩
        | true =>
          rw [hw] at c2
          have HW := Box.mk hw
          have c3 := fun W hb => swap_calls B g l cap es' i' j W (M.out.pile.past hb) HL1.out hi0 hjl (by have := EJ.out; omega)
          clear hw
          go_wp2_with (first | (go_at_call 81; refine (c2 _ (Below.refl _ _)).mono ?_; rintro e w3 ⟨rfl, hb4⟩; have hms := (HQ1.out.past hb4).swap) | (go_at_call 82; refine (c3 _ hb4).mono ?_; rintro e w5 ⟨rfl, hp5, hf5, hz5⟩))
          go_roundg (gk - 1)
          case measure => omega
          case rel =>
            have hlt : ltE es'[j]! es'[i']! := by rw [getElem!_pos es' j hjl, getElem!_pos es' i' hi0]; exact (lessE_iff _ _).1 HW.out
            have hL1 := HL1.out
            have hJ := EJ.out
            have st := down_step (n := n) (by omega) D.out.x (by omega) hjn HM.out hlt
            exact ⟨j, swapL es' i' j, by first | rfl | rw [hjc], by omega, hjn, by omega, ⟨(M.out.past hb4).swap hi0 hjl hin hjn hp5 hf5⟩, ⟨st.1, fun h => absurd h (by omega), fun _ => st.2⟩⟩
end Go.Proofs.Ytnnebkmjeigflaa.L
