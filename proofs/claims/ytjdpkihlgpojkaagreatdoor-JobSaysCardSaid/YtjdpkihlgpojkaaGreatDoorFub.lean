import Derived.Test.YtjdpkihlgpojkaaGreatDoorSh
import Derived.Test.YtjdpkihlgpojkaaGreatDoorFw
import Derived.WalkKit
import Derived.BigCall
import Derived.BigQuiet
import Derived.Lib.ConvBytes
import Derived.Lib.SmallJoins
import Derived.Laws.IdiomStrings
import Derived.Laws.BytesString
/- The contract of field.upper, walked: a text with great letters, rune by rune. -/
namespace Go.Proofs.YtjdpkihlgpojkaaGreatDoor
open Go Go.RowKit
set_option linter.unusedVariables false
set_option linter.unusedSimpArgs false

def upR (r : Nat) : Nat := if 97 ≤ r ∧ r ≤ 122 then r - 32 else r

/-- great letters, rune by rune -/
def upFrom (s : ByteArray) : Nat → Nat → List UInt8
  | 0, _ => []
  | fuel + 1, pos => if pos < s.size then Lib.encodeRune (upR (Utf8.decode s pos).1) ++ upFrom s fuel (pos + (Utf8.decode s pos).2) else []

def upS (s : ByteArray) : List UInt8 := upFrom s s.size 0

theorem width_pos (s : ByteArray) (pos : Nat) (h : pos < s.size) : 1 ≤ (Utf8.decode s pos).2 := by
  by_cases ha : (s[pos]'h).toNat < 128
  · rw [decode_ascii s pos h ha]
    exact Nat.le_refl _
  · exact (decode_high s pos h (by omega)).2

theorem upFrom_end (s : ByteArray) (fuel pos : Nat) (h : ¬ pos < s.size) : upFrom s fuel pos = [] := by
  cases fuel with
  | zero => rfl
  | succ f => simp [upFrom, h]

set_option maxHeartbeats 4000000 in
set_option maxRecDepth 1000000 in
theorem upper_walk (s : ByteArray) (w : World) (hs : s.size ≤ 35184372088832) :
    Calls Tryz.prog 123 #[.string s] w fun e w' => e = .returned (.string ⟨(upS s).toArray⟩) ∧ Below w.heap.size w w' := by
  go_enter Tryz.func123, Tryz.ntmps123
  go_wp2
  go_loopw [] (fun wr => ∃ (pos fuel : Nat) (acc : List UInt8), Lib.IsBuilderF 183 5 w.heap.size w.heap.size (Lib.byteCells acc) wr ∧ wr.heap[w.heap.size + 1]? = some (.stringIter s pos) ∧ Below w.heap.size w wr ∧ acc ++ upFrom s fuel pos = upS s ∧ s.size ≤ pos + fuel ∧ acc.length ≤ 4 * pos) (fun wr => s.size - wr.iterPos (w.heap.size + 1))
  case atStart =>
    refine ⟨0, s.size, [], (Lib.IsBuilderF.of (Lib.fresh_isBuilder 183 5 w)).alloc _, ?_, ((Below.refl _ w).alloc (Nat.le_refl _) _).alloc (by simp) _, rfl, by omega, by simp⟩
    have := World.iter_heap (w.alloc (.cells #[.pointer none, .slice none 0 0] 183)) s 0
    simpa using this
  case round =>
    obtain ⟨pos, fuel, acc, hI, hit, hbw, hacc, hfu, hal⟩ := hrel
    have hsz : w.heap.size + 1 < wr.heap.size := (Array.getElem?_eq_some_iff.1 hit).1
    by_cases hp : pos < s.size
    · have hnx : ∀ ty, (Instr.next (.pointer (some ⟨w.heap.size + 1, 0, none⟩)) true ty).run Tryz.prog wr = _ := fun ty => Lib.run_next_any_at wr (w.heap.size + 1) s pos ty hit hp
      have hwd := width_pos s pos hp
      have hd1 := decode_le s pos
      have hI2 := hI.iterAt hit (pos + (Utf8.decode s pos).2)
      have hit2 := Lib.iterAt_heap wr (w.heap.size + 1) s pos (pos + (Utf8.decode s pos).2) hit
      have hbw2 := Lib.below_iterAt hbw (k := w.heap.size + 1) (by omega) s (pos + (Utf8.decode s pos).2)
      have hsz2 : w.heap.size ≤ (wr.iterAt (w.heap.size + 1) s (pos + (Utf8.decode s pos).2)).heap.size := by rw [Lib.iterAt_size]; omega
      obtain ⟨f, rfl⟩ : ∃ f, fuel = f + 1 := ⟨fuel - 1, by omega⟩
      by_cases h97 : 97 ≤ (Utf8.decode s pos).1
      · by_cases h122 : (Utf8.decode s pos).1 ≤ 122
        · have h97' : (97 : Int) ≤ ((Utf8.decode s pos).1 : Int) := by omega
          have h122' : ((Utf8.decode s pos).1 : Int) ≤ 122 := by omega
          have hw : IntKind.wrap .i32 (((Utf8.decode s pos).1 : Int) - 32) = (((Utf8.decode s pos).1 - 32 : Nat) : Int) := by
            have : IntKind.wrap .i32 (((Utf8.decode s pos).1 : Int) - 32) = ((Utf8.decode s pos).1 : Int) - 32 := by
              rw [show ((Utf8.decode s pos).1 : Int) - 32 = ((((Utf8.decode s pos).1 - 32 : Nat)) : Int) by omega]
              simp only [IntKind.wrap]
              have : (Utf8.decode s pos).1 - 32 ≤ 100 := by omega
              generalize (Utf8.decode s pos).1 - 32 = q at this
              revert this
              revert q
              decide
            omega
          have hu : upR (Utf8.decode s pos).1 = (Utf8.decode s pos).1 - 32 := if_pos ⟨h97, h122⟩
          go_wp2_with (go_at_call 135; refine (Tryz.Builder_WriteRune_k w.heap.size w.heap.size _ _ (by omega) (by omega) _ hI2 (by rw [Lib.byteCells_length]; omega) hsz2).mono ?_)
          first | (rintro e W1 rfl h1 b1 k1; skip) | (rintro e W1 ⟨rfl, h1, b1, k1⟩; skip)
          go_wp2
          go_roundw
          case rel =>
            have hl4 := Lib.runeCells_le (((Utf8.decode s pos).1 - 32 : Nat) : Int)
            rw [Lib.runeCells_length] at hl4
            refine ⟨pos + (Utf8.decode s pos).2, f, acc ++ Lib.encodeRune (((Utf8.decode s pos).1 - 32 : Nat) : Int), ?_, k1.iter hit2 (by omega), hbw2.trans b1, ?_, by omega, by simp; omega⟩
            · rw [Lib.byteCells_append, Lib.byteCells_encodeRune]; exact Or.inr (by simpa [hw] using h1)
            · rw [← hacc]; simp [upFrom, hp, hu]
          case measure =>
            simp only [World.iterPos, k1.iter hit2 (by omega), hit]
            omega
        · have hu : upR (Utf8.decode s pos).1 = (Utf8.decode s pos).1 := if_neg (by omega)
          have h97' : (97 : Int) ≤ ((Utf8.decode s pos).1 : Int) := by omega
          have h122' : ¬ ((Utf8.decode s pos).1 : Int) ≤ 122 := by omega
          go_wp2_with (go_at_call 135; refine (Tryz.Builder_WriteRune_k w.heap.size w.heap.size _ _ (by omega) (by omega) _ hI2 (by rw [Lib.byteCells_length]; omega) hsz2).mono ?_)
          first | (rintro e W1 rfl h1 b1 k1; skip) | (rintro e W1 ⟨rfl, h1, b1, k1⟩; skip)
          go_wp2
          go_roundw
          case rel =>
            have hl4 := Lib.runeCells_le ((Utf8.decode s pos).1 : Int)
            rw [Lib.runeCells_length] at hl4
            refine ⟨pos + (Utf8.decode s pos).2, f, acc ++ Lib.encodeRune (Utf8.decode s pos).1, ?_, k1.iter hit2 (by omega), hbw2.trans b1, ?_, by omega, by simp; omega⟩
            · rw [Lib.byteCells_append, Lib.byteCells_encodeRune]; exact Or.inr h1
            · rw [← hacc]; simp [upFrom, hp, hu]
          case measure =>
            simp only [World.iterPos, k1.iter hit2 (by omega), hit]
            omega
      · have hu : upR (Utf8.decode s pos).1 = (Utf8.decode s pos).1 := if_neg (by omega)
        have h97' : ¬ (97 : Int) ≤ ((Utf8.decode s pos).1 : Int) := by omega
        go_wp2_with (go_at_call 135; refine (Tryz.Builder_WriteRune_k w.heap.size w.heap.size _ _ (by omega) (by omega) _ hI2 (by rw [Lib.byteCells_length]; omega) hsz2).mono ?_)
        first | (rintro e W1 rfl h1 b1 k1; skip) | (rintro e W1 ⟨rfl, h1, b1, k1⟩; skip)
        go_wp2
        go_roundw
        case rel =>
          have hl4 := Lib.runeCells_le ((Utf8.decode s pos).1 : Int)
          rw [Lib.runeCells_length] at hl4
          refine ⟨pos + (Utf8.decode s pos).2, f, acc ++ Lib.encodeRune (Utf8.decode s pos).1, ?_, k1.iter hit2 (by omega), hbw2.trans b1, ?_, by omega, by simp; omega⟩
          · rw [Lib.byteCells_append, Lib.byteCells_encodeRune]; exact Or.inr h1
          · rw [← hacc]; simp [upFrom, hp, hu]
        case measure =>
          simp only [World.iterPos, k1.iter hit2 (by omega), hit]
          omega
    · have hnx : ∀ ty, (Instr.next (.pointer (some ⟨w.heap.size + 1, 0, none⟩)) true ty).run Tryz.prog wr = _ := fun ty => Lib.run_next_end_at wr (w.heap.size + 1) s pos ty hit hp
      go_wp2_with (go_at_call 136; refine (Tryz.Builder_String_any_k w.heap.size w.heap.size acc _ hI (by omega)).mono ?_)
      first | (rintro e W1 rfl _ b1 _; skip) | (rintro e W1 ⟨rfl, _, b1, _⟩; skip)
      go_wp2
      go_ret
      rw [upFrom_end s fuel pos hp, List.append_nil] at hacc
      subst hacc
      exact ⟨rfl, hbw.trans b1⟩
end Go.Proofs.YtjdpkihlgpojkaaGreatDoor
/- The contract of the reference's upper, walked: a text with great letters, byte by byte. -/
namespace Go.Proofs.YtjdpkihlgpojkaaGreatDoor
open Go Go.RowKit
set_option linter.unusedVariables false
set_option linter.unusedSimpArgs false

theorem wi {x : Int} (h1 : -9223372036854775808 ≤ x) (h2 : x ≤ 9223372036854775807) : IntKind.wrap .i64 x = x := by
  simp only [IntKind.wrap]
  first | omega | (simp only [IntKind.bits, IntKind.signed]; simp; omega)

def upB (b : UInt8) : UInt8 := if 97 ≤ b.toNat ∧ b.toNat ≤ 122 then b - 32 else b

def upL (l : List UInt8) (k : Nat) : List UInt8 := (l.take k).map upB ++ l.drop k

theorem upL_get (l : List UInt8) (k j : Nat) : (upL l k).getD j 0 = if j < k then upB (l.getD j 0) else l.getD j 0 := by
  unfold upL
  simp only [List.getD_eq_getElem?_getD]
  by_cases hj : j < l.length
  · by_cases hk : j < k
    · rw [List.getElem?_append_left (by simp; omega)]
      simp [List.getElem?_take, hk, hj]
    · rw [List.getElem?_append_right (by simp; omega)]
      simp [hk]
      congr 2
      omega
  · have h1 : l[j]? = none := List.getElem?_eq_none (by omega)
    rw [h1]
    have : ((l.take k).map upB ++ l.drop k)[j]? = none := List.getElem?_eq_none (by simp; omega)
    rw [this]
    simp [upB]

theorem frozen_new (w : World) (e : TypeId) (s : ByteArray) (j : Nat) (hj : j < s.size) : (Lib.bytesWorld w e s).frozen? ⟨w.heap.size, j, none⟩ = false := by
  unfold World.frozen?
  rw [Lib.bytesWorld_at_new]
  have : ¬ (Lib.bytesCells w e s).size ≤ j := by
    unfold Lib.bytesCells
    simp only [Array.size_append, Array.size_map]
    have : s.data.size = s.size := rfl
    omega
  simp [this]

/-- the row of bytes at B, the first k of them made great -/
structure UpRow (w : World) (l : List UInt8) (B k : Nat) (x : World) : Prop where
  cell : ∀ j, j < l.length → x.cell? ⟨B, j, none⟩ = some (.int .u8 ((upL l k).getD j 0).toNat)
  free : ∀ j, j < l.length → x.frozen? ⟨B, j, none⟩ = false
  bel : Below B w x

theorem UpRow.keep {w : World} {l : List UInt8} {B k : Nat} {x : World} (h : UpRow w l B k x) (hb : upB (l.getD k 0) = l.getD k 0) : UpRow w l B (k + 1) x := by
  refine ⟨fun j hj => ?_, h.free, h.bel⟩
  rw [h.cell j hj, upL_get, upL_get]
  by_cases e : j < k
  · rw [if_pos e, if_pos (by omega)]
  · rw [if_neg e]
    by_cases e2 : j = k
    · subst e2; rw [if_pos (by omega), hb]
    · rw [if_neg (by omega)]

theorem UpRow.put {w : World} {l : List UInt8} {B k : Nat} {x : World} (h : UpRow w l B k x) (hk : k < l.length) (hB : w.heap.size ≤ B) {v : Int} (hv : v = ((upB (l.getD k 0)).toNat : Int)) : UpRow w l B (k + 1) (x.setCell ⟨B, k, none⟩ (.int .u8 v)) := by
  refine ⟨fun j hj => ?_, fun j hj => by simpa using h.free j hj, ?_⟩
  · by_cases e : j = k
    · subst e
      rw [World.cell?_setCell_same _ _ _ (h.cell _ hj), upL_get, if_pos (by omega), hv]
    · rw [World.cell?_setCell_other _ _ _ _ (by intro q; have := congrArg Addr.off q; simp at this; omega), h.cell j hj, upL_get, upL_get]
      by_cases e2 : j < k
      · rw [if_pos e2, if_pos (by omega)]
      · rw [if_neg e2, if_neg (by omega)]
  · exact h.bel.setCell (Nat.le_refl _) _

set_option maxHeartbeats 4000000 in
set_option maxRecDepth 1000000 in
theorem rupper_walk (s : ByteArray) (w : World) (hs : s.size ≤ 35184372088832) :
    Calls Tryz.prog 104 #[.string s] w fun e w' => e = .returned (.string ⟨(s.data.toList.map upB).toArray⟩) ∧ Below w.heap.size w w' := by
  have hconv := fun w => Lib.run_convert_string_bytes (P := Tryz.prog) w 9 167 5 s Tryz.underlying9 Tryz.underlying167 Tryz.underlying5
  have hsl : s.data.toList.length = s.size := rfl
  have hsize := Lib.bytesWorld_size w 5 s
  go_enter Tryz.func104, Tryz.ntmps104
  go_wp2
  go_loopw [10] (fun i wr => ∃ k : Nat, k ≤ s.size ∧ i = .int .i64 k ∧ UpRow w s.data.toList w.heap.size k wr) (fun i wr => match i with | .int _ n => s.size - n.toNat | _ => 0)
  case atStart =>
    exact ⟨0, Nat.zero_le _, rfl, ⟨fun j hj => by rw [Lib.bytesWorld_cell w 5 s j hj, upL_get, if_neg (Nat.not_lt_zero _)], fun j hj => frozen_new w 5 s j hj, Go.Joins.below_bytesWorld w.heap.size w 5 s (Nat.le_refl _)⟩⟩
  case round =>
    obtain ⟨k, hk, rfl, hU⟩ := hrel
    by_cases hlt : k < s.size
    · have c0 := hU.cell k hlt
      have f0 := hU.free k hlt
      rw [upL_get, if_neg (Nat.lt_irrefl _)] at c0
      have h0 : (0 : Int) ≤ (k : Int) := by omega
      have h1 : (k : Int) < (s.size : Int) := by omega
      obtain ⟨b, hbd⟩ : ∃ b, s.data.toList.getD k 0 = b := ⟨_, rfl⟩
      rw [hbd] at c0
      by_cases h97 : 97 ≤ b.toNat
      · by_cases h122 : b.toNat ≤ 122
        · have h97' : (97 : Int) ≤ (b.toNat : Int) := by omega
          have h122' : (b.toNat : Int) ≤ 122 := by omega
          go_wp2
          go_roundw
          case rel =>
            have hv : (b.toNat : Int) - 97 + 65 = ((upB (s.data.toList.getD k 0)).toNat : Int) := by
              rw [hbd]
              unfold upB
              rw [if_pos ⟨h97, h122⟩, UInt8.toNat_sub_of_le _ _ (by rw [UInt8.le_iff_toNat_le]; show 32 ≤ b.toNat; omega)]
              show _ = ((b.toNat - 32 : Nat) : Int)
              omega
            exact ⟨k + 1, hlt, rfl, hU.put hlt (Nat.le_refl _) hv⟩
          case measure => simp; omega
        · have h97' : (97 : Int) ≤ (b.toNat : Int) := by omega
          have h122' : ¬ (b.toNat : Int) ≤ 122 := by omega
          have hb : upB b = b := if_neg (by omega)
          rw [← hbd] at hb
          go_wp2
          go_roundw
          case rel => exact ⟨k + 1, hlt, rfl, hU.keep hb⟩
          case measure => simp; omega
      · have h97' : ¬ (97 : Int) ≤ (b.toNat : Int) := by omega
        have hb : upB b = b := if_neg (by omega)
        rw [← hbd] at hb
        go_wp2
        go_roundw
        case rel => exact ⟨k + 1, hlt, rfl, hU.keep hb⟩
        case measure => simp; omega
    · have h1 : ¬ (k : Int) < (s.size : Int) := by omega
      obtain rfl : k = s.size := by omega
      have hback := run_convert_bytes_back (P := Tryz.prog) wr 167 9 5 ⟨w.heap.size, 0, none⟩ (grownCap w s.size 0 5) (s.data.toList.map upB) Tryz.underlying167 Tryz.underlying5 Tryz.underlying9 (fun j hj => by
        have hj' : j < s.data.toList.length := by simpa using hj
        have := hU.cell j hj'
        have hj2 : j < s.size := hj'
        rw [upL_get, if_pos hj2] at this
        simp only [List.getElem_map]
        rw [show (⟨w.heap.size, 0, none⟩ : Addr).add j = ⟨w.heap.size, j, none⟩ by (simp [Addr.add]; try exact fun h => h.symm), this, List.getD_eq_getElem?_getD, List.getElem?_eq_getElem hj']
        rfl)
      rw [show (s.data.toList.map upB).length = s.size by simp [hsl]] at hback
      have hbl := hU.bel
      go_wp2
      go_ret
      exact ⟨rfl, hbl⟩
end Go.Proofs.YtjdpkihlgpojkaaGreatDoor
