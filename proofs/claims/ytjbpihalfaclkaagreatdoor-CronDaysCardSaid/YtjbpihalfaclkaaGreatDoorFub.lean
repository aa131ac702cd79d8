/- The contract of the reference's upper, walked: a text with great letters, byte by byte. -/
import Derived.Test.YtjbpihalfaclkaaGreatDoorFw
import Derived.WalkKit
import Derived.BigCall
import Derived.BigQuiet
import Derived.Lib.ConvBytes
import Derived.Lib.SmallJoins
import Derived.Laws.IdiomStrings
import Derived.Laws.BytesString
namespace Go.Proofs.YtjbpihalfaclkaaGreatDoor
open Go Go.RowKit
set_option linter.unusedVariables false
set_option linter.unusedSimpArgs false

theorem wi {x : Int} (h1 : -9223372036854775808 ≤ x) (h2 : x ≤ 9223372036854775807) : IntKind.wrap .i64 x = x := by
  simp only [IntKind.wrap]
  first | omega | (simp only [IntKind.bits, IntKind.signed]; simp; omega)

def upB (b : UInt8) : UInt8 := if 97 ≤ b.toNat ∧ b.toNat ≤ 122 then b - 32 else b

def upL (l : List UInt8) (k : Nat) : List UInt8 := (l.take k).map upB ++ l.drop k

theorem upL_len (l : List UInt8) (k : Nat) : (upL l k).length = l.length := by simp [upL]; omega

theorem upL_get (l : List UInt8) (k j : Nat) : (upL l k).getD j 0 = if j < k then upB (l.getD j 0) else l.getD j 0 := by
  unfold upL
  simp only [List.getD_eq_getElem?_getD]
  by_cases hj : j < l.length
  · by_cases hk : j < k
    · rw [List.getElem?_append_left (by simp; omega)]
      simp [List.getElem?_take, hk, hj]
    · rw [List.getElem?_append_right (by simp; omega)]
      simp [hk]
      congr 2
      omega
  · have h1 : l[j]? = none := List.getElem?_eq_none (by omega)
    rw [h1]
    have : ((l.take k).map upB ++ l.drop k)[j]? = none := List.getElem?_eq_none (by simp; omega)
    rw [this]
    simp [upB]

theorem upB_val (b : UInt8) (h1 : 97 ≤ b.toNat) (h2 : b.toNat ≤ 122) : IntKind.wrap .u8 (IntKind.wrap .u8 ((b.toNat : Int) - 97) + 65) = ((upB b).toNat : Int) := by
  unfold upB
  rw [if_pos ⟨h1, h2⟩]
  revert h1 h2
  have : ∀ q : Fin 256, 97 ≤ q.val → q.val ≤ 122 → IntKind.wrap .u8 (IntKind.wrap .u8 (((UInt8.ofNat q.val).toNat : Int) - 97) + 65) = ((UInt8.ofNat q.val - 32).toNat : Int) := by decide +kernel
  intro h1 h2
  have := this ⟨b.toNat, b.toNat_lt⟩ h1 h2
  simpa using this

theorem frozen_new (w : World) (e : TypeId) (s : ByteArray) (j : Nat) (hj : j < s.size) : (Lib.bytesWorld w e s).frozen? ⟨w.heap.size, j, none⟩ = false := by
  unfold World.frozen?
  rw [Lib.bytesWorld_at_new]
  have : ¬ (Lib.bytesCells w e s).size ≤ j := by
    unfold Lib.bytesCells
    simp only [Array.size_append, Array.size_map]
    have : s.data.size = s.size := rfl
    omega
  simp [this]

/-- the row of bytes at B, the first k of them made great -/
structure UpRow (w : World) (l : List UInt8) (B k : Nat) (x : World) : Prop where
  cell : ∀ j, j < l.length → x.cell? ⟨B, j, none⟩ = some (.int .u8 ((upL l k).getD j 0).toNat)
  free : ∀ j, j < l.length → x.frozen? ⟨B, j, none⟩ = false
  bel : Below B w x

theorem UpRow.keep {w : World} {l : List UInt8} {B k : Nat} {x : World} (h : UpRow w l B k x) (hb : upB (l.getD k 0) = l.getD k 0) : UpRow w l B (k + 1) x := by
  refine ⟨fun j hj => ?_, h.free, h.bel⟩
  rw [h.cell j hj, upL_get, upL_get]
  by_cases e : j < k
  · rw [if_pos e, if_pos (by omega)]
  · rw [if_neg e]
    by_cases e2 : j = k
    · subst e2; rw [if_pos (by omega), hb]
    · rw [if_neg (by omega)]

theorem UpRow.put {w : World} {l : List UInt8} {B k : Nat} {x : World} (h : UpRow w l B k x) (hk : k < l.length) (hB : w.heap.size ≤ B) {v : Int} (hv : v = ((upB (l.getD k 0)).toNat : Int)) : UpRow w l B (k + 1) (x.setCell ⟨B, k, none⟩ (.int .u8 v)) := by
  refine ⟨fun j hj => ?_, fun j hj => by simpa using h.free j hj, ?_⟩
  · by_cases e : j = k
    · subst e
      rw [World.cell?_setCell_same _ _ _ (h.cell _ hj), upL_get, if_pos (by omega), hv]
    · rw [World.cell?_setCell_other _ _ _ _ (by intro q; have := congrArg Addr.off q; simp at this; omega), h.cell j hj, upL_get, upL_get]
      by_cases e2 : j < k
      · rw [if_pos e2, if_pos (by omega)]
      · rw [if_neg e2, if_neg (by omega)]
  · exact h.bel.setCell (Nat.le_refl _) _

set_option maxHeartbeats 4000000 in
set_option maxRecDepth 1000000 in
theorem rupper_walk (s : ByteArray) (w : World) (hs : s.size ≤ 35184372088832) :
    Calls Tryz.prog 253 #[.string s] w fun e w' => e = .returned (.string ⟨(s.data.toList.map upB).toArray⟩) ∧ Below w.heap.size w w' := by
  have hconv := fun w => Lib.run_convert_string_bytes (P := Tryz.prog) w 9 232 5 s Tryz.underlying9 Tryz.underlying232 Tryz.underlying5
  have hsl : s.data.toList.length = s.size := rfl
  have hsize := Lib.bytesWorld_size w 5 s
  go_enter Tryz.func253, Tryz.ntmps253
  go_wp2
  go_loopw [10] (fun i wr => ∃ k : Nat, k ≤ s.size ∧ i = .int .i64 k ∧ UpRow w s.data.toList w.heap.size k wr) (fun i wr => match i with | .int _ n => s.size - n.toNat | _ => 0)
  case atStart =>
    exact ⟨0, Nat.zero_le _, rfl, ⟨fun j hj => by rw [Lib.bytesWorld_cell w 5 s j hj, upL_get, if_neg (Nat.not_lt_zero _)], fun j hj => frozen_new w 5 s j hj, Go.Joins.below_bytesWorld w.heap.size w 5 s (Nat.le_refl _)⟩⟩
  case round =>
    obtain ⟨k, hk, rfl, hU⟩ := hrel
    by_cases hlt : k < s.size
    · have c0 := hU.cell k hlt
      have f0 := hU.free k hlt
      rw [upL_get, if_neg (Nat.lt_irrefl _)] at c0
      have h0 : (0 : Int) ≤ (k : Int) := by omega
      have h1 : (k : Int) < (s.size : Int) := by omega
      obtain ⟨b, hbd⟩ : ∃ b, s.data.toList.getD k 0 = b := ⟨_, rfl⟩
      rw [hbd] at c0
      by_cases h97 : 97 ≤ b.toNat
      · by_cases h122 : b.toNat ≤ 122
        · have h97' : (97 : Int) ≤ (b.toNat : Int) := by omega
          have h122' : (b.toNat : Int) ≤ 122 := by omega
          go_wp2
          go_roundw
          case rel =>
            have hv : (b.toNat : Int) - 97 + 65 = ((upB (s.data.toList.getD k 0)).toNat : Int) := by
              rw [hbd]
              unfold upB
              rw [if_pos ⟨h97, h122⟩, UInt8.toNat_sub_of_le _ _ (by rw [UInt8.le_iff_toNat_le]; show 32 ≤ b.toNat; omega)]
              show _ = ((b.toNat - 32 : Nat) : Int)
              omega
            exact ⟨k + 1, hlt, rfl, hU.put hlt (Nat.le_refl _) hv⟩
          case measure => simp; omega
        · have h97' : (97 : Int) ≤ (b.toNat : Int) := by omega
          have h122' : ¬ (b.toNat : Int) ≤ 122 := by omega
          have hb : upB b = b := if_neg (by omega)
          rw [← hbd] at hb
          go_wp2
          go_roundw
          case rel => exact ⟨k + 1, hlt, rfl, hU.keep hb⟩
          case measure => simp; omega
      · have h97' : ¬ (97 : Int) ≤ (b.toNat : Int) := by omega
        have hb : upB b = b := if_neg (by omega)
        rw [← hbd] at hb
        go_wp2
        go_roundw
        case rel => exact ⟨k + 1, hlt, rfl, hU.keep hb⟩
        case measure => simp; omega
    · have h1 : ¬ (k : Int) < (s.size : Int) := by omega
      obtain rfl : k = s.size := by omega
      have hback := run_convert_bytes_back (P := Tryz.prog) wr 232 9 5 ⟨w.heap.size, 0, none⟩ (grownCap w s.size 0 5) (s.data.toList.map upB) Tryz.underlying232 Tryz.underlying5 Tryz.underlying9 (fun j hj => by
        have hj' : j < s.data.toList.length := by simpa using hj
        have := hU.cell j hj'
        have hj2 : j < s.size := hj'
        rw [upL_get, if_pos hj2] at this
        simp only [List.getElem_map]
        rw [show (⟨w.heap.size, 0, none⟩ : Addr).add j = ⟨w.heap.size, j, none⟩ by (simp [Addr.add]; try exact fun h => h.symm), this, List.getD_eq_getElem?_getD, List.getElem?_eq_getElem hj']
        rfl)
      rw [show (s.data.toList.map upB).length = s.size by simp [hsl]] at hback
      have hbl := hU.bel
      go_wp2
      go_ret
      exact ⟨rfl, hbl⟩
end Go.Proofs.YtjbpihalfaclkaaGreatDoor
