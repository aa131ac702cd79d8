/- The contract of field.upper, walked: a text with great letters, rune by rune. -/
import Derived.Test.YtbammhmbapeboaaGreatDoorSh
import Derived.Test.YtbammhmbapeboaaGreatDoorFw
import Derived.WalkKit
import Derived.BigCall
import Derived.BigQuiet
namespace Go.Proofs.YtbammhmbapeboaaGreatDoor
open Go Go.RowKit
set_option linter.unusedVariables false
set_option linter.unusedSimpArgs false

def upR (r : Nat) : Nat := if 97 ≤ r ∧ r ≤ 122 then r - 32 else r

/-- great letters, rune by rune -/
def upFrom (s : ByteArray) : Nat → Nat → List UInt8
  | 0, _ => []
  | fuel + 1, pos => if pos < s.size then Lib.encodeRune (upR (Utf8.decode s pos).1) ++ upFrom s fuel (pos + (Utf8.decode s pos).2) else []

def upS (s : ByteArray) : List UInt8 := upFrom s s.size 0

theorem width_pos (s : ByteArray) (pos : Nat) (h : pos < s.size) : 1 ≤ (Utf8.decode s pos).2 := by
  by_cases ha : (s[pos]'h).toNat < 128
  · rw [decode_ascii s pos h ha]
    exact Nat.le_refl _
  · exact (decode_high s pos h (by omega)).2

theorem upFrom_end (s : ByteArray) (fuel pos : Nat) (h : ¬ pos < s.size) : upFrom s fuel pos = [] := by
  cases fuel with
  | zero => rfl
  | succ f => simp [upFrom, h]

set_option maxHeartbeats 4000000 in
set_option maxRecDepth 1000000 in
theorem upper_walk (s : ByteArray) (w : World) (hs : s.size ≤ 35184372088832) :
    Calls Tryz.prog 325 #[.string s] w fun e w' => e = .returned (.string ⟨(upS s).toArray⟩) ∧ Below w.heap.size w w' := by
  go_enter Tryz.func325, Tryz.ntmps325
  go_wp2
  go_loopw [] (fun wr => ∃ (pos fuel : Nat) (acc : List UInt8), Lib.IsBuilderF 408 5 w.heap.size w.heap.size (Lib.byteCells acc) wr ∧ wr.heap[w.heap.size + 1]? = some (.stringIter s pos) ∧ Below w.heap.size w wr ∧ acc ++ upFrom s fuel pos = upS s ∧ s.size ≤ pos + fuel ∧ acc.length ≤ 4 * pos) (fun wr => s.size - wr.iterPos (w.heap.size + 1))
  case atStart =>
    refine ⟨0, s.size, [], (Lib.IsBuilderF.of (Lib.fresh_isBuilder 408 5 w)).alloc _, ?_, ((Below.refl _ w).alloc (Nat.le_refl _) _).alloc (by simp) _, rfl, by omega, by simp⟩
    have := World.iter_heap (w.alloc (.cells #[.pointer none, .slice none 0 0] 408)) s 0
    simpa using this
  case round =>
    obtain ⟨pos, fuel, acc, hI, hit, hbw, hacc, hfu, hal⟩ := hrel
    have hsz : w.heap.size + 1 < wr.heap.size := (Array.getElem?_eq_some_iff.1 hit).1
    by_cases hp : pos < s.size
    · have hnx : ∀ ty, (Instr.next (.pointer (some ⟨w.heap.size + 1, 0, none⟩)) true ty).run Tryz.prog wr = _ := fun ty => Lib.run_next_any_at wr (w.heap.size + 1) s pos ty hit hp
      have hwd := width_pos s pos hp
      have hd1 := decode_le s pos
      have hI2 := hI.iterAt hit (pos + (Utf8.decode s pos).2)
      have hit2 := Lib.iterAt_heap wr (w.heap.size + 1) s pos (pos + (Utf8.decode s pos).2) hit
      have hbw2 := Lib.below_iterAt hbw (k := w.heap.size + 1) (by omega) s (pos + (Utf8.decode s pos).2)
      have hsz2 : w.heap.size ≤ (wr.iterAt (w.heap.size + 1) s (pos + (Utf8.decode s pos).2)).heap.size := by rw [Lib.iterAt_size]; omega
      obtain ⟨f, rfl⟩ : ∃ f, fuel = f + 1 := ⟨fuel - 1, by omega⟩
      by_cases h97 : 97 ≤ (Utf8.decode s pos).1
      · by_cases h122 : (Utf8.decode s pos).1 ≤ 122
        · have h97' : (97 : Int) ≤ ((Utf8.decode s pos).1 : Int) := by omega
          have h122' : ((Utf8.decode s pos).1 : Int) ≤ 122 := by omega
          have hw : IntKind.wrap .i32 (((Utf8.decode s pos).1 : Int) - 32) = (((Utf8.decode s pos).1 - 32 : Nat) : Int) := by
            have : IntKind.wrap .i32 (((Utf8.decode s pos).1 : Int) - 32) = ((Utf8.decode s pos).1 : Int) - 32 := by
              rw [show ((Utf8.decode s pos).1 : Int) - 32 = ((((Utf8.decode s pos).1 - 32 : Nat)) : Int) by omega]
              simp only [IntKind.wrap]
              have : (Utf8.decode s pos).1 - 32 ≤ 100 := by omega
              generalize (Utf8.decode s pos).1 - 32 = q at this
              revert this
              revert q
              decide
            omega
          have hu : upR (Utf8.decode s pos).1 = (Utf8.decode s pos).1 - 32 := if_pos ⟨h97, h122⟩
          go_wp2_with (go_at_call 332; refine (Tryz.Builder_WriteRune_k w.heap.size w.heap.size _ _ (by omega) (by omega) _ hI2 (by rw [Lib.byteCells_length]; omega) hsz2).mono ?_)
          first | (rintro e W1 rfl h1 b1 k1; skip) | (rintro e W1 ⟨rfl, h1, b1, k1⟩; skip)
          go_wp2
          go_roundw
          case rel =>
            have hl4 := Lib.runeCells_le (((Utf8.decode s pos).1 - 32 : Nat) : Int)
            rw [Lib.runeCells_length] at hl4
            refine ⟨pos + (Utf8.decode s pos).2, f, acc ++ Lib.encodeRune (((Utf8.decode s pos).1 - 32 : Nat) : Int), ?_, k1.iter hit2 (by omega), hbw2.trans b1, ?_, by omega, by simp; omega⟩
            · rw [Lib.byteCells_append, Lib.byteCells_encodeRune]; exact Or.inr (by simpa [hw] using h1)
            · rw [← hacc]; simp [upFrom, hp, hu]
          case measure =>
            simp only [World.iterPos, k1.iter hit2 (by omega), hit]
            omega
        · have hu : upR (Utf8.decode s pos).1 = (Utf8.decode s pos).1 := if_neg (by omega)
          have h97' : (97 : Int) ≤ ((Utf8.decode s pos).1 : Int) := by omega
          have h122' : ¬ ((Utf8.decode s pos).1 : Int) ≤ 122 := by omega
          go_wp2_with (go_at_call 332; refine (Tryz.Builder_WriteRune_k w.heap.size w.heap.size _ _ (by omega) (by omega) _ hI2 (by rw [Lib.byteCells_length]; omega) hsz2).mono ?_)
          first | (rintro e W1 rfl h1 b1 k1; skip) | (rintro e W1 ⟨rfl, h1, b1, k1⟩; skip)
          go_wp2
          go_roundw
          case rel =>
            have hl4 := Lib.runeCells_le ((Utf8.decode s pos).1 : Int)
            rw [Lib.runeCells_length] at hl4
            refine ⟨pos + (Utf8.decode s pos).2, f, acc ++ Lib.encodeRune (Utf8.decode s pos).1, ?_, k1.iter hit2 (by omega), hbw2.trans b1, ?_, by omega, by simp; omega⟩
            · rw [Lib.byteCells_append, Lib.byteCells_encodeRune]; exact Or.inr h1
            · rw [← hacc]; simp [upFrom, hp, hu]
          case measure =>
            simp only [World.iterPos, k1.iter hit2 (by omega), hit]
            omega
      · have hu : upR (Utf8.decode s pos).1 = (Utf8.decode s pos).1 := if_neg (by omega)
        have h97' : ¬ (97 : Int) ≤ ((Utf8.decode s pos).1 : Int) := by omega
        go_wp2_with (go_at_call 332; refine (Tryz.Builder_WriteRune_k w.heap.size w.heap.size _ _ (by omega) (by omega) _ hI2 (by rw [Lib.byteCells_length]; omega) hsz2).mono ?_)
        first | (rintro e W1 rfl h1 b1 k1; skip) | (rintro e W1 ⟨rfl, h1, b1, k1⟩; skip)
        go_wp2
        go_roundw
        case rel =>
          have hl4 := Lib.runeCells_le ((Utf8.decode s pos).1 : Int)
          rw [Lib.runeCells_length] at hl4
          refine ⟨pos + (Utf8.decode s pos).2, f, acc ++ Lib.encodeRune (Utf8.decode s pos).1, ?_, k1.iter hit2 (by omega), hbw2.trans b1, ?_, by omega, by simp; omega⟩
          · rw [Lib.byteCells_append, Lib.byteCells_encodeRune]; exact Or.inr h1
          · rw [← hacc]; simp [upFrom, hp, hu]
        case measure =>
          simp only [World.iterPos, k1.iter hit2 (by omega), hit]
          omega
    · have hnx : ∀ ty, (Instr.next (.pointer (some ⟨w.heap.size + 1, 0, none⟩)) true ty).run Tryz.prog wr = _ := fun ty => Lib.run_next_end_at wr (w.heap.size + 1) s pos ty hit hp
      go_wp2_with (go_at_call 333; refine (Tryz.Builder_String_any_k w.heap.size w.heap.size acc _ hI (by omega)).mono ?_)
      first | (rintro e W1 rfl _ b1 _; skip) | (rintro e W1 ⟨rfl, _, b1, _⟩; skip)
      go_wp2
      go_ret
      rw [upFrom_end s fuel pos hp, List.append_nil] at hacc
      subst hacc
      exact ⟨rfl, hbw.trans b1⟩
end Go.Proofs.YtbammhmbapeboaaGreatDoor
