/- The law TimesBack: the plain law, and the walk out of the second reading. -/
import Derived.Test.YtkhmkenankdakabDoorGt
namespace Go.Proofs.YtkhmkenankdakabDoor
open Go Go.RowKit Go.Ab
set_option linter.unusedSimpArgs false
set_option linter.unusedVariables false
attribute [local irreducible] Go.Ab.acall Go.Ab.acode

theorem br_t (X Y : Prop) : br true X Y = X := rfl

theorem br_f (X Y : Prop) : br false X Y = Y := rfl

theorem req_t (X : Prop) : req true X = X := rfl

theorem textT_size {t : Int} (h : timeB t = true) : (textT t).size = 19 := (of_decide_eq_true (time_facts h).2.2.2.2.2.1).1

theorem back_run (a0 a1 a2 a3 a4 a5 a6 : Int) (a7 : ByteArray) (hs : a7.size ≤ maxLen) : acall curfewlaw05_TimesBack_cx okT lpT 40 (.fn 8 [] []) [(V.int .i64 a0), (V.agg [(V.int .i64 a1), (V.int .i64 a2), (V.int .i64 a3), (V.int .i64 a4), (V.int .i64 a5), (V.int .i64 a6)]), (V.str a7)] [] (fun x _ => x = V.bool true) := by
  rw [curfewlaw05_TimesBack_tree]
  have q7 : times_Parse_pre a7 = true := decide_eq_true hs
  -- the text
  have k3 : br (eParT a7 == 0) (br (eTime (parT a7) != 0) ((V.bool false) = V.bool true) (br (!((ByteArray.toList (textT (parT a7))) == (ByteArray.toList a7))) (V.bool false = V.bool true) (V.bool true = V.bool true))) (V.bool true = V.bool true) := by
    cases h : pokB a7
    · have e : eParT a7 = 151 := by simp only [eParT, h, cond_false]
      rw [e]; rfl
    · have e : eParT a7 = 0 := by simp only [eParT, h, cond_true]
      obtain ⟨t1, t2⟩ := text_facts h
      have e2 : eTime (parT a7) = 0 := by simp only [eTime, t1, cond_true]
      rw [e, e2, t2]
      simp only [beq_self_eq_true, bne_self_eq_false, Bool.not_true, Bool.not_false, Bool.and_true, br_t, br_f, req_t]
  -- the civil time
  have k2 : br (eOfT a1 a2 a3 a4 a5 a6 == 0) (br ((eTime (ofT a1 a2 a3 a4 a5 a6)) != 0) ((V.bool false) = V.bool true) (br (!((((atY (ofT a1 a2 a3 a4 a5 a6)) == a1) && (((atM (ofT a1 a2 a3 a4 a5 a6)) == a2) && (((atD (ofT a1 a2 a3 a4 a5 a6)) == a3) && true))) && (((atA (ofT a1 a2 a3 a4 a5 a6)) == a4) && (((atB (ofT a1 a2 a3 a4 a5 a6)) == a5) && (((atC (ofT a1 a2 a3 a4 a5 a6)) == a6) && true))))) ((V.bool false) = V.bool true) (br (!(timeB (ofT a1 a2 a3 a4 a5 a6))) ((V.bool false) = V.bool true) (req (times_Parse_pre a7) (br ((eParT a7) == 0) (br ((eTime (parT a7)) != 0) ((V.bool false) = V.bool true) (br (!((ByteArray.toList (textT (parT a7))) == (ByteArray.toList a7))) ((V.bool false) = V.bool true) (V.bool true = V.bool true))) (V.bool true = V.bool true)))))) (req (times_Parse_pre a7) (br ((eParT a7) == 0) (br ((eTime (parT a7)) != 0) ((V.bool false) = V.bool true) (br (!((ByteArray.toList (textT (parT a7))) == (ByteArray.toList a7))) ((V.bool false) = V.bool true) (V.bool true = V.bool true))) (V.bool true = V.bool true))) := by
    rw [q7]
    cases h : okc a1 a2 a3 a4 a5 a6
    · have e : eOfT a1 a2 a3 a4 a5 a6 = 150 := by simp only [eOfT, h, cond_false]
      rw [e]
      exact k3
    · have e : eOfT a1 a2 a3 a4 a5 a6 = 0 := by simp only [eOfT, h, cond_true]
      have e2 : ofT a1 a2 a3 a4 a5 a6 = tim a1 a2 a3 a4 a5 a6 := by simp only [ofT, h, cond_true]
      obtain ⟨t1, t2, t3, t4, t5, t6, t7⟩ := civ_facts h
      have e3 : eTime (tim a1 a2 a3 a4 a5 a6) = 0 := by simp only [eTime, t1, cond_true]
      rw [e, e2, e3, t1, t2, t3, t4, t5, t6, t7]
      simpa only [beq_self_eq_true, bne_self_eq_false, Bool.not_true, Bool.not_false, Bool.and_true, br_t, br_f, req_t] using k3
  cases h : timeB a0
  · have e : eTime a0 = 2 := by simp only [eTime, h, cond_false]
    rw [e]
    exact k2
  · obtain ⟨t1, t2, t3, t4, t5, t6, t7⟩ := time_facts h
    have e1 : eTime a0 = 0 := by simp only [eTime, h, cond_true]
    have e2 : times_Parse_pre (textT a0) = true := decide_eq_true (by rw [textT_size h]; decide)
    have e3 : eOfT (atY a0) (atM a0) (atD a0) (atA a0) (atB a0) (atC a0) = 0 := by simp only [eOfT, t1, cond_true]
    have e4 : ofT (atY a0) (atM a0) (atD a0) (atA a0) (atB a0) (atC a0) = a0 := by simp only [ofT, t1, t2, cond_true]
    have e5 : eParT (textT a0) = 0 := by simp only [eParT, t6, cond_true]
    have e6 : eOfD (atY a0) (atM a0) (atD a0) = 0 := by simp only [eOfD, t3, cond_true]
    have e7 : ofD (atY a0) (atM a0) (atD a0) = a0 / 86400 := by simp only [ofD, t3, t4, cond_true]
    have e8 : eDay (a0 / 86400) = 0 := by simp only [eDay, t5, cond_true]
    have e9 : wdD (a0 / 86400) = wdT a0 := by simp only [wdD, wdT, t5, h, cond_true]
    have e10 : IntKind.wrap .i64 (Int.tdiv a0 86400) = a0 / 86400 := by
      obtain ⟨h1, h2⟩ := timeB_true h
      rw [Int.tdiv_eq_ediv_of_nonneg h1, wrap_i64i (by omega) (by omega)]
    rw [e1, e2, e3, e4, e5, e6, e7, e8, e9, e10, t7]
    simpa only [beq_self_eq_true, bne_self_eq_false, Bool.not_true, Bool.not_false, Bool.and_true, br_t, br_f, req_t] using k2

theorem walk_TimesBack (a0 : Int) (c1 : Array Value) (a2 : ByteArray) (w : World) (w0 : (Lit.int .i64 a0).wf = true) (f1 : Sh.fits w civSh c1.toList) (w2 : a2.size ≤ maxLen) (hL : DaysLaid w) :
    Calls Tryd.prog 8 #[.int .i64 a0, .agg c1, .string a2] w fun e w' => e = .returned (.bool true) ∧ Ext w w' := by
  obtain ⟨y, m, d, a, b, s, e, _⟩ := civ_of f1
  obtain rfl : c1 = #[.int .i64 y, .int .i64 m, .int .i64 d, .int .i64 a, .int .i64 b, .int .i64 s] := by rw [← e]
  obtain ⟨u, h1, h2⟩ := pure_of (c := curfewlaw05_TimesBack_cx) (ty_ok rfl) (eq_ok rfl) curfewlaw05_TimesBack_fns follows_ok (back_run a0 y m d a b s a2 w2) rfl rfl _ _ w (Ds_dens (ρ := []) rfl) (laid_days hL)
  rw [D_one_value (flat_solid rfl) h1 (D_den rfl)] at h2
  simp only [dens, den] at h2
  exact h2.mono fun _ _ h => ⟨h.1, Ext.mk h.2⟩
end Go.Proofs.YtkhmkenankdakabDoor
