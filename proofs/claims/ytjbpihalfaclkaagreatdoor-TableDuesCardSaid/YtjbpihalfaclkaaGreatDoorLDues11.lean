/- The law TableDues, as plain law. -/
import Derived.Test.YtjbpihalfaclkaaGreatDoorLdt
namespace Go.Proofs.YtjbpihalfaclkaaGreatDoor
open Go Go.B
set_option linter.unusedSimpArgs false
set_option linter.unusedVariables false
set_option linter.unusedSectionVars false
set_option maxRecDepth 20000

abbrev rowX : Ty := .pr (.pr (.int .u32) (.pr .bool (.pr (.pr (.int .u64) (.pr (.int .u64) (.pr (.int .u64) (.pr (.int .u64) (.int .u64))))) (.pr (.int .i64) (.pr (.int .i64) (.pr (.int .i64) (.int .i64))))))) (.pr .bool (.pr (.int .i64) (.pr (.pr (.int .u64) (.pr (.int .i64) (.int .i64))) (.sl (.int .i64)))))

theorem u32_range {n : Int} (h : (Lit.int .u32 n).wf = true) : 0 ≤ n ∧ n ≤ 4294967295 := by
  simpa [Lit.wf, IntKind.min, IntKind.max, IntKind.signed, IntKind.bits] using h

theorem own_of {l : List RowT} {x : RowT} (h : x ∈ ownL l) : ∃ y ∈ l, x = cutT y := by
  unfold ownL at h
  obtain ⟨y, hy, e⟩ := List.mem_map.mp h
  exact ⟨y, List.mem_of_mem_take hy, e.symm⟩

theorem rows_in {l : List RowT} (i0 : inT (.sl rowX) l) {y : RowT} (hy : y ∈ l) : inT rowX y := by
  obtain ⟨i, hi, rfl⟩ := List.getElem_of_mem hy
  exact i0.2 i hi

theorem law_TableDues (x0 : List RowT) (i0 : inT (.sl rowX) x0) : curfewlaw11_TableDues_R x0 true := by
  refine TableDues_fn (by have := i0.1; simpa [maxLen] using this) ?_ ?_
  · intro x hx
    obtain ⟨y, hy, rfl⟩ := own_of hx
    have h := rows_in i0 hy
    refine ⟨⟨⟨u64_range h.1.2.2.1.1, u64_range h.1.2.2.1.2.1, u64_range h.1.2.2.1.2.2.1, u64_range h.1.2.2.1.2.2.2.1, u64_range h.1.2.2.1.2.2.2.2⟩, i64_range h.1.2.2.2.1⟩, ?_, (u64_range h.2.2.2.1.1).1⟩
    show (y.2.2.2.2.take 5).length ≤ 1000
    rw [List.length_take]; omega
  · intro x hx
    obtain ⟨y, hy, rfl⟩ := own_of hx
    exact u32_range (rows_in i0 hy).1.1
end Go.Proofs.YtjbpihalfaclkaaGreatDoor
