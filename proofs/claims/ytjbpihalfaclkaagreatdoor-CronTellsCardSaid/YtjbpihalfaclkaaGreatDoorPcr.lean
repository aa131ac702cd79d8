/- Texts of crons, and the laws' first line. -/
import Derived.Test.YtjbpihalfaclkaaGreatDoorPc
import Derived.Test.YtjbpihalfaclkaaGreatDoorKmr
import Derived.Test.YtjbpihalfaclkaaGreatDoorRa
namespace Go.Proofs.YtjbpihalfaclkaaGreatDoor
open Go Go.B
set_option linter.unusedSimpArgs false
set_option linter.unusedVariables false
set_option linter.unusedSectionVars false
set_option maxRecDepth 20000

/- the reference's text -/

theorem rText_y {k : Nat} (hk : k < 5) {x : Int} (hx : U64 x) (h : okF k x = true) : curfewref06_Text_R (k : Int) x ⟨(textO k x.toNat).toArray⟩ := by
  obtain ⟨m, rfl⟩ : ∃ m : Nat, x = m := ⟨x.toNat, by have := hx.1; omega⟩
  exact rText_fn hk h

theorem rCronText_fn {c : Cron} (hc : c.in) (hok : c.ok = true) : curfewref07_Text_R c.mi c.ho c.da c.mo c.we ⟨(textC c).toArray⟩ := by
  obtain ⟨h0, h1, h2, h3, h4⟩ := hc
  have hok := hok
  unfold Cron.ok at hok
  simp only [Bool.and_eq_true] at hok
  obtain ⟨⟨⟨⟨e0, e1⟩, e2⟩, e3⟩, e4⟩ := hok
  have l0 := text_len (k := 0) (by decide) h0 e0
  have l1 := text_len (k := 1) (by decide) h1 e1
  have l2 := text_len (k := 2) (by decide) h2 e2
  have l3 := text_len (k := 3) (by decide) h3 e3
  have l4 := text_len (k := 4) (by decide) h4 e4
  have r0 := rText_y (k := 0) (by decide) h0 e0
  have r1 := rText_y (k := 1) (by decide) h1 e1
  have r2 := rText_y (k := 2) (by decide) h2 e2
  have r3 := rText_y (k := 3) (by decide) h3 e3
  have r4 := rText_y (k := 4) (by decide) h4 e4
  have m0 := mk_size (textO 0 c.mi.toNat)
  have m1 := mk_size (textO 1 c.ho.toNat)
  have m2 := mk_size (textO 2 c.da.toNat)
  have m3 := mk_size (textO 3 c.mo.toNat)
  have m4 := mk_size (textO 4 c.we.toNat)
  have eT : (⟨(textC c).toArray⟩ : ByteArray) = ((((((((((⟨#[]⟩ : ByteArray) ++ ⟨(textO 0 c.mi.toNat).toArray⟩) ++ ⟨#[32]⟩) ++ ⟨(textO 1 c.ho.toNat).toArray⟩) ++ ⟨#[32]⟩) ++ ⟨(textO 2 c.da.toNat).toArray⟩) ++ ⟨#[32]⟩) ++ ⟨(textO 3 c.mo.toNat).toArray⟩) ++ ⟨#[32]⟩) ++ ⟨(textO 4 c.we.toNat).toArray⟩) := by
    have e32 : (⟨#[32]⟩ : ByteArray) = ⟨([32] : List UInt8).toArray⟩ := rfl
    have en : (⟨#[]⟩ : ByteArray) = ⟨([] : List UInt8).toArray⟩ := rfl
    rw [e32, en]
    simp only [ba_append]
    unfold textC
    rw [join5]
    simp
  have z0 : (⟨#[]⟩ : ByteArray).size = 0 := rfl
  have z1 : (⟨#[32]⟩ : ByteArray).size = 1 := rfl
  generalize textO 0 c.mi.toNat = t0 at *
  generalize textO 1 c.ho.toNat = t1 at *
  generalize textO 2 c.da.toNat = t2 at *
  generalize textO 3 c.mo.toNat = t3 at *
  generalize textO 4 c.we.toNat = t4 at *
  have sz : ∀ (a b : ByteArray), a.size ≤ 100000 → b.size ≤ 100000 → decide (ByteArray.size a + ByteArray.size b ≤ 9223372036854775807) = true := fun a b h1 h2 => yes_of (by omega)
  refine ⟨_, rfl, _, ⟨6, br_yes rfl ⟨by decide, br_no rfl ⟨_, r0, sz _ _ (by omega) (by omega), br_yes rfl ⟨by decide, br_yes rfl ⟨sz _ _ ?_ (by omega), _, r1, sz _ _ ?_ (by omega), br_yes rfl ⟨by decide, br_yes rfl ⟨sz _ _ ?_ (by omega), _, r2, sz _ _ ?_ (by omega), br_yes rfl ⟨by decide, br_yes rfl ⟨sz _ _ ?_ (by omega), _, r3, sz _ _ ?_ (by omega), br_yes rfl ⟨by decide, br_yes rfl ⟨sz _ _ ?_ (by omega), _, r4, sz _ _ ?_ (by omega), br_no rfl rfl⟩⟩⟩⟩⟩⟩⟩⟩⟩⟩⟩, eT.symm⟩
  all_goals (simp only [ByteArray.size_append]; omega)
end Go.Proofs.YtjbpihalfaclkaaGreatDoor
