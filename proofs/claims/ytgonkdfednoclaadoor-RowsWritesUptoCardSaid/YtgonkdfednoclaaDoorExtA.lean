/- Contracts of strings.IndexByte, TrimLeft, TrimRight in the printer's form: what they return is the shelf's own plain function (TrimLeft, TrimRight: where the cutset is ASCII and short). -/
import Derived.Test.YtgonkdfednoclaaDoorPRowsx0
import Derived.Test.YtgonkdfednoclaaDoorShelf
import Derived.Shelf.Strings.SlTrimAscii
namespace Go.Proofs.YtgonkdfednoclaaDoor.PRows
open Go.RowKit Go.Proofs.YtgonkdfednoclaaDoorW.PrintWords

/-- Where the first byte c stands, or -1. -/
def strings_IndexByte.f (a0 : ByteArray) (a1 : Int) : Option Int := some (Lib.indexByte a0.data.toList a1.toNat.toUInt8)
theorem strings_IndexByte.calls (a0 : ByteArray) (a1 : Int) (r : Int) (w : World) (h : strings_IndexByte.f a0 a1 = some r) :
    Calls Tryd.prog 20 #[.string a0, .int .u8 a1] w fun e w' => e = .returned (.int .i64 r) ∧ Drawn0 w w' := by
  obtain rfl := Option.some.inj h
  refine (Tryd.strings_IndexByte a0 a1 w).mono ?_
  rintro e w' ⟨he, hw⟩
  subst hw
  exact ⟨he, Drawn0.refl _⟩

/-- Is a cutset ASCII, and short? -/
def asciiCut (c : ByteArray) : Bool := decide (c.size < 4294967281) && c.data.toList.all (fun b => decide (b.toNat < 128))
theorem asciiCut_spec {c : ByteArray} (h : asciiCut c = true) : c.size < 4294967281 ∧ ∀ (j : Nat) b, c.data.toList[j]? = some b → b.toNat < 128 := by
  unfold asciiCut at h
  rw [Bool.and_eq_true] at h
  exact ⟨of_decide_eq_true h.1, ascii_of_all h.2⟩

def strings_TrimLeft.f (a0 a1 : ByteArray) : Option ByteArray := if asciiCut a1 = true then some ⟨(Lib.trimLeftS a0.data.toList a1.data.toList).toArray⟩ else none
theorem strings_TrimLeft.calls (a0 a1 : ByteArray) (r : ByteArray) (w : World) (h : strings_TrimLeft.f a0 a1 = some r) :
    Calls Tryd.prog 21 #[.string a0, .string a1] w fun e w' => e = .returned (.string r) ∧ Below w.heap.size w w' := by
  unfold strings_TrimLeft.f at h
  by_cases hc : asciiCut a1 = true
  · rw [if_pos hc] at h
    obtain rfl := Option.some.inj h
    exact Any.strings_TrimLeft_laid Tryd.lays161 (by kernel_rfl) a0 a1 w (asciiCut_spec hc).1 (asciiCut_spec hc).2
  · rw [if_neg hc] at h; cases h

def strings_TrimRight.f (a0 a1 : ByteArray) : Option ByteArray := if asciiCut a1 = true ∧ a0.size ≤ 9223372036854775807 then some ⟨(Lib.trimRightS a0.data.toList a1.data.toList).toArray⟩ else none
theorem strings_TrimRight.calls (a0 a1 : ByteArray) (r : ByteArray) (w : World) (h : strings_TrimRight.f a0 a1 = some r) :
    Calls Tryd.prog 22 #[.string a0, .string a1] w fun e w' => e = .returned (.string r) ∧ Below w.heap.size w w' := by
  unfold strings_TrimRight.f at h
  by_cases hc : asciiCut a1 = true ∧ a0.size ≤ 9223372036854775807
  · rw [if_pos hc] at h
    obtain rfl := Option.some.inj h
    exact Any.strings_TrimRight_laid Tryd.lays162 (by kernel_rfl) a0 a1 w hc.2 (asciiCut_spec hc.1).1 (asciiCut_spec hc.1).2
  · rw [if_neg hc] at h; cases h
end Go.Proofs.YtgonkdfednoclaaDoor.PRows
