/- What an argument is, by its type's shape: numbers fit their kinds, slices lead to cells. One law for every type without maps, pointers, functions and interfaces. -/
import Derived.Test.YtbammhmbapeboaaGreatDoorFw
import Derived.ProofKit
import Derived.OpenShut
import Derived.ChangeOld
import Derived.LaidMore
import Derived.SevenTiedAt
import Derived.Deep.Slices
import Derived.Lib.SmallJoins
namespace Go.Proofs.YtbammhmbapeboaaGreatDoor
open Go Go.RowKit

/-- the shape of a type -/
inductive Sh where
  | int (k : IntKind)
  | bool
  | str
  | slice (n : Nat) (e : Sh)
  | stop (len : Nat)
  | field (off n : Nat) (e rest : Sh)

/-- cells that are of a shape -/
def Sh.fits (w : World) : Sh → List Value → Prop
  | .int k, cs => ∃ n, cs = [.int k n] ∧ (Lit.int k n).wf = true
  | .bool, cs => ∃ b, cs = [.bool b]
  | .str, cs => ∃ s : ByteArray, cs = [.string s] ∧ s.size ≤ maxLen
  | .slice n e, cs => cs = [.slice none 0 0] ∨ ∃ a len cap, cs = [.slice (some a) len cap] ∧ len ≤ cap ∧ cap ≤ maxLen ∧
      ∀ i, i < len → ∃ cs', cs'.length = n ∧ (∀ j, j < n → w.cell? (a.add (i * n + j)) = cs'[j]?) ∧ e.fits w cs'
  | .stop len, cs => cs.length = len
  | .field off n e rest, cs => e.fits w ((cs.drop off).take n) ∧ rest.fits w cs

def okFields (rec : TypeId → Sh → Bool) (P : Program) (len : Nat) : List Field → Sh → Bool
  | [], .stop n => decide (n = len)
  | f :: fs, .field off n e rest => decide (off = f.offset) && decide (n = P.cellsOf f.type) && rec f.type e && okFields rec P len fs rest
  | _, _ => false

def okElems (rec : TypeId → Sh → Bool) (P : Program) (len : Nat) (e : TypeId) : Nat → Nat → Sh → Bool
  | _, 0, .stop n => decide (n = len)
  | i, k + 1, .field off n s rest => decide (off = i * P.cellsOf e) && decide (n = P.cellsOf e) && rec e s && okElems rec P len e (i + 1) k rest
  | _, _, _ => false

/-- does a type have this shape? -/
def Sh.ok (P : Program) : Nat → TypeId → Sh → Bool
  | 0, _, _ => false
  | f + 1, t, sh =>
    match P.underlying t, sh with
    | some (.int k), .int k' => decide (k = k')
    | some .bool, .bool => true
    | some .string, .str => true
    | some (.slice e), .slice n s => decide (n = P.cellsOf e) && Sh.ok P f e s
    | some (.struct fs), s => okFields (Sh.ok P f) P (P.cellsOf t) fs.toList s
    | some (.array n e), s => okElems (Sh.ok P f) P (P.cellsOf t) e 0 n s
    | _, _ => false

section
variable {H : Type} {enc : TypeId × Value → H} {P : Program} {w : World} {base : Nat} {spare : Nat → Bool} {held : Bool}

theorem fits_fields {f : Nat} {len : Nat} {cs : List Value} (hlen : cs.length = len)
    (ih : ∀ t sh fuel cs x, Sh.ok P f t sh = true → DataW.trod enc P w base spare held fuel t cs = some x → sh.fits w cs) (m : Nat) :
    ∀ (fs : List Field) (sh : Sh), (∀ fd ∈ fs, ∃ x, DataW.trod enc P w base spare held m fd.type ((cs.drop fd.offset).take (P.cellsOf fd.type)) = some x) →
      okFields (Sh.ok P f) P len fs sh = true → sh.fits w cs := by
  intro fs
  induction fs with
  | nil =>
    intro sh _ h
    cases sh <;> simp [okFields] at h
    rw [h]; exact hlen
  | cons fd fs ihf =>
    intro sh hall h
    cases sh <;> simp [okFields] at h
    obtain ⟨⟨⟨h1, h2⟩, h3⟩, h4⟩ := h
    subst h1; subst h2
    obtain ⟨x, hx⟩ := hall fd (by simp)
    exact ⟨ih _ _ _ _ _ h3 hx, ihf _ (fun g hg => hall g (by simp [hg])) h4⟩

theorem fits_elems {f : Nat} {len : Nat} {e : TypeId} {cs : List Value} (hlen : cs.length = len)
    (ih : ∀ t sh fuel cs x, Sh.ok P f t sh = true → DataW.trod enc P w base spare held fuel t cs = some x → sh.fits w cs) (m : Nat) :
    ∀ (k i : Nat) (sh : Sh), (∀ j, i ≤ j → j < i + k → ∃ x, DataW.trod enc P w base spare held m e ((cs.drop (j * P.cellsOf e)).take (P.cellsOf e)) = some x) →
      okElems (Sh.ok P f) P len e i k sh = true → sh.fits w cs := by
  intro k
  induction k with
  | zero =>
    intro i sh _ h
    cases sh <;> simp [okElems] at h
    rw [h]; exact hlen
  | succ k ihk =>
    intro i sh hall h
    cases sh <;> simp [okElems] at h
    obtain ⟨⟨⟨h1, h2⟩, h3⟩, h4⟩ := h
    subst h1; subst h2
    obtain ⟨x, hx⟩ := hall i (Nat.le_refl _) (by omega)
    exact ⟨ih _ _ _ _ _ h3 hx, ihk (i + 1) _ (fun j h1 h2 => hall j (by omega) (by omega)) h4⟩

theorem fits_of_trod : ∀ (f : Nat) (t : TypeId) (sh : Sh) (fuel : Nat) (cs : List Value) (x : DataW H × List MemPlace),
    Sh.ok P f t sh = true → DataW.trod enc P w base spare held fuel t cs = some x → sh.fits w cs := by
  intro f
  induction f with
  | zero => intro t sh _ _ _ h; simp [Sh.ok] at h
  | succ f ih =>
    intro t sh fuel cs x h hx
    unfold Sh.ok at h
    split at h
    · rename_i k k' ht
      obtain rfl : k = k' := by simpa using h
      obtain ⟨n, h1, _, h3⟩ := DataW.trod_int ht hx
      exact ⟨n, h1, h3⟩
    · rename_i ht
      obtain ⟨b, h1, _⟩ := DataW.trod_bool ht hx
      exact ⟨b, h1⟩
    · rename_i ht
      obtain ⟨s, h1, _, h3⟩ := DataW.trod_string ht hx
      exact ⟨s, h1, h3⟩
    · rename_i e n s ht
      simp only [Bool.and_eq_true, decide_eq_true_eq] at h
      obtain ⟨h1, h2⟩ := h
      subst h1
      rcases Deep.open_slice ht hx with ⟨h0, _⟩ | ⟨a, len, cap, m, n, D, Pl, rfl, hb, hl, hm, hmm, _, hel⟩
      · exact .inl h0
      · refine .inr ⟨a, len, cap, rfl, hl, hm, fun i hi => ?_⟩
        have hi' : i < m := by rw [hmm]; split <;> omega
        obtain ⟨cs', c1, c2⟩ := hel i hi'
        obtain ⟨_, l1, l2⟩ := World.cells?_some c1
        refine ⟨cs', l1, fun j hj => ?_, ih _ _ _ _ _ h2 c2⟩
        rw [← l2 j hj, Deep.add_add]
    · rename_i s fs ht
      obtain ⟨xs, m, _, _, hl, hxl, hf⟩ := DataW.trod_struct ht hx
      refine fits_fields hl ih m fs.toList _ (fun fd hfd => ?_) h
      obtain ⟨i, hi, rfl⟩ := List.mem_iff_getElem.mp hfd
      have hi' : i < fs.size := by simpa using hi
      have := hf i fs[i] (by simp [hi'])
      rw [List.getElem?_eq_getElem (by omega)] at this
      exact ⟨_, by simpa using this⟩
    · rename_i s n e ht
      obtain ⟨xs, m, _, _, hl, hxl, hf⟩ := DataW.trod_array ht hx
      refine fits_elems hl ih m n 0 _ (fun j _ hj => ?_) h
      have := hf j (by omega)
      rw [List.getElem?_eq_getElem (by omega)] at this
      exact ⟨_, this⟩
    · cases h

/-- an argument -/
theorem fits_arg {t : TypeId} {v : Value} {d : DataW H} {p : List MemPlace} (f : Nat) (sh : Sh) (hok : Sh.ok P f t sh = true) (h : DataW.Trod enc P w base spare held t v d p) : sh.fits w v.cells.toList := by
  obtain ⟨fuel, hf⟩ := h
  exact fits_of_trod f t sh fuel _ _ hok hf
end

theorem i64_range {n : Int} (h : (Lit.int .i64 n).wf = true) : -9223372036854775808 ≤ n ∧ n ≤ 9223372036854775807 := by
  simpa [Lit.wf, IntKind.min, IntKind.max, IntKind.signed, IntKind.bits] using h

theorem u64_range {n : Int} (h : (Lit.int .u64 n).wf = true) : 0 ≤ n ∧ n ≤ 18446744073709551615 := by
  simpa [Lit.wf, IntKind.min, IntKind.max, IntKind.signed, IntKind.bits] using h

theorem u8_range {n : Int} (h : (Lit.int .u8 n).wf = true) : 0 ≤ n ∧ n ≤ 255 := by
  simpa [Lit.wf, IntKind.min, IntKind.max, IntKind.signed, IntKind.bits] using h

end Go.Proofs.YtbammhmbapeboaaGreatDoor
