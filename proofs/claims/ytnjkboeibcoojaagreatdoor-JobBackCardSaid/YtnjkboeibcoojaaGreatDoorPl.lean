import Derived.Test.YtnjkboeibcoojaaGreatDoorKo
import Derived.Test.YtnjkboeibcoojaaGreatDoorPb
import Derived.Test.YtnjkboeibcoojaaGreatDoorMb
/- Texts of crons. -/
namespace Go.Proofs.YtnjkboeibcoojaaGreatDoor
open Go Go.B
set_option linter.unusedSimpArgs false
set_option linter.unusedVariables false
set_option linter.unusedSectionVars false
set_option maxRecDepth 20000

def crn (t : F5) : Cron := ⟨t.1, t.2.1, t.2.2.1, t.2.2.2.1, t.2.2.2.2⟩

/-- the one text of a cron -/
def textC (c : Cron) : List UInt8 := Lib.join [textO 0 c.mi.toNat, textO 1 c.ho.toNat, textO 2 c.da.toNat, textO 3 c.mo.toNat, textO 4 c.we.toNat] [32]

theorem field_Text_two {k : Nat} (hk : k < 5) {x : Int} (hx : U64 x) : field_Text_R (k : Int) x (if okF k x then (⟨(textO k x.toNat).toArray⟩, 0) else (⟨#[]⟩, 160)) := by
  obtain ⟨m, rfl⟩ : ∃ m : Nat, x = m := ⟨x.toNat, by have := hx.1; omega⟩
  cases hm : okF k (m : Int)
  · exact field_Text_bad hk (by have := hx.2; omega) hm
  · exact field_Text_fn hk hm

theorem field_Text_y {k : Nat} (hk : k < 5) {x : Int} (hx : U64 x) (h : okF k x = true) : field_Text_R (k : Int) x (⟨(textO k x.toNat).toArray⟩, 0) := by
  have := field_Text_two hk hx; rwa [h] at this

theorem field_Text_n {k : Nat} (hk : k < 5) {x : Int} (hx : U64 x) (h : okF k x = false) : field_Text_R (k : Int) x (⟨#[]⟩, 160) := by
  have := field_Text_two hk hx; rwa [h] at this

theorem text_len {k : Nat} (hk : k < 5) {x : Int} (hx : U64 x) (h : okF k x = true) : (textO k x.toNat).length ≤ 256 := by
  obtain ⟨m, rfl⟩ : ∃ m : Nat, x = m := ⟨x.toNat, by have := hx.1; omega⟩
  exact (text_back hk h).1

theorem join5 (a b c d e : List UInt8) : Lib.join [a, b, c, d, e] [32] = a ++ 32 :: b ++ 32 :: c ++ 32 :: d ++ 32 :: e := by
  rw [Lib.join_cons]
  unfold Lib.joinTail
  simp

theorem cron_Text_fn {c : Cron} (hc : c.in) : cron_Text_R c.mi c.ho c.da c.mo c.we (if c.ok then (⟨(textC c).toArray⟩, 0) else (⟨#[]⟩, 170)) := by
  obtain ⟨h0, h1, h2, h3, h4⟩ := hc
  cases e0 : okF 0 c.mi
  · have : c.ok = false := by unfold Cron.ok; rw [e0]; rfl
    rw [this]
    exact ⟨_, field_Text_n (k := 0) (by decide) h0 e0, br_yes rfl rfl⟩
  cases e1 : okF 1 c.ho
  · have : c.ok = false := by unfold Cron.ok; rw [e0, e1]; rfl
    rw [this]
    exact ⟨_, field_Text_y (k := 0) (by decide) h0 e0, br_no rfl ⟨_, field_Text_n (k := 1) (by decide) h1 e1, br_yes rfl rfl⟩⟩
  cases e2 : okF 2 c.da
  · have : c.ok = false := by unfold Cron.ok; rw [e0, e1, e2]; rfl
    rw [this]
    exact ⟨_, field_Text_y (k := 0) (by decide) h0 e0, br_no rfl ⟨_, field_Text_y (k := 1) (by decide) h1 e1, br_no rfl ⟨_, field_Text_n (k := 2) (by decide) h2 e2, br_yes rfl rfl⟩⟩⟩
  cases e3 : okF 3 c.mo
  · have : c.ok = false := by unfold Cron.ok; rw [e0, e1, e2, e3]; rfl
    rw [this]
    exact ⟨_, field_Text_y (k := 0) (by decide) h0 e0, br_no rfl ⟨_, field_Text_y (k := 1) (by decide) h1 e1, br_no rfl ⟨_, field_Text_y (k := 2) (by decide) h2 e2, br_no rfl ⟨_, field_Text_n (k := 3) (by decide) h3 e3, br_yes rfl rfl⟩⟩⟩⟩
  cases e4 : okF 4 c.we
  · have : c.ok = false := by unfold Cron.ok; rw [e0, e1, e2, e3, e4]; rfl
    rw [this]
    exact ⟨_, field_Text_y (k := 0) (by decide) h0 e0, br_no rfl ⟨_, field_Text_y (k := 1) (by decide) h1 e1, br_no rfl ⟨_, field_Text_y (k := 2) (by decide) h2 e2, br_no rfl ⟨_, field_Text_y (k := 3) (by decide) h3 e3, br_no rfl ⟨_, field_Text_n (k := 4) (by decide) h4 e4, br_yes rfl rfl⟩⟩⟩⟩⟩
  have : c.ok = true := by unfold Cron.ok; rw [e0, e1, e2, e3, e4]; rfl
  rw [this]
  refine ⟨_, field_Text_y (k := 0) (by decide) h0 e0, br_no rfl ⟨_, field_Text_y (k := 1) (by decide) h1 e1, br_no rfl ⟨_, field_Text_y (k := 2) (by decide) h2 e2, br_no rfl ⟨_, field_Text_y (k := 3) (by decide) h3 e3, br_no rfl ⟨_, field_Text_y (k := 4) (by decide) h4 e4, br_no rfl ⟨⟨(textC c).toArray⟩, ⟨⟨by simp, ?_⟩, rfl⟩, rfl⟩⟩⟩⟩⟩⟩
  have l0 := text_len (k := 0) (by decide) h0 e0
  have l1 := text_len (k := 1) (by decide) h1 e1
  have l2 := text_len (k := 2) (by decide) h2 e2
  have l3 := text_len (k := 3) (by decide) h3 e3
  have l4 := text_len (k := 4) (by decide) h4 e4
  show (Lib.join [textO 0 c.mi.toNat, textO 1 c.ho.toNat, textO 2 c.da.toNat, textO 3 c.mo.toNat, textO 4 c.we.toNat] [32]).length ≤ 100000000
  rw [join5]
  simp only [List.length_append, List.length_cons]
  omega
/- the laws' first line -/
end Go.Proofs.YtnjkboeibcoojaaGreatDoor
/- The text of a cron leads back. -/
namespace Go.Proofs.YtnjkboeibcoojaaGreatDoor
open Go Go.B
set_option linter.unusedSimpArgs false
set_option linter.unusedVariables false
set_option linter.unusedSectionVars false
set_option maxRecDepth 20000

theorem dig_plain : ∀ n : Fin 100, ∀ b ∈ digL n.val, b ≠ 32 ∧ b ≠ 64 := by decide +kernel

theorem join_mem {s : List UInt8} {b : UInt8} : ∀ {l : List (List UInt8)}, b ∈ Lib.join l [44] → (∃ x ∈ l, b ∈ x) ∨ b = 44
  | [], h => by simp [Lib.join_nil] at h
  | [x], h => by rw [Lib.join_one] at h; exact .inl ⟨x, by simp, h⟩
  | x :: y :: r, h => by
    rw [join_two] at h
    rcases List.mem_append.mp h with h | h
    · exact .inl ⟨x, by simp, h⟩
    · rcases List.mem_cons.mp h with h | h
      · exact .inr h
      · rcases join_mem (s := s) h with ⟨z, hz, hb⟩ | h
        · exact .inl ⟨z, List.mem_cons_of_mem _ hz, hb⟩
        · exact .inr h

/-- no blank, and no sign of a macro, in the text of a field -/
theorem text_plain {k : Nat} (hk : k < 5) {m : Nat} (hm : okF k (m : Int) = true) : ∀ b ∈ textO k m, b ≠ 32 ∧ b ≠ 64 := by
  obtain ⟨hlt, h0⟩ := okF_lt hk hm
  intro b hb
  unfold textO at hb
  split at hb
  · simp at hb; rw [hb]; decide
  · split at hb
    · rename_i n hs
      unfold stepO at hs
      split at hs
      · have h1 := stepF_bd hs
        simp only [List.mem_cons] at hb
        rcases hb with hb | hb | hb
        · rw [hb]; decide
        · rw [hb]; decide
        · exact dig_plain ⟨n, by omega⟩ b hb
      · cases hs
    · rcases join_mem (s := []) hb with ⟨x, hx, hb⟩ | hb
      · obtain ⟨r, hr, rfl⟩ := List.mem_map.mp hx
        have h1 := runsO_mem hlt hr
        unfold runT at hb
        split at hb
        · rcases List.mem_append.mp hb with hb | hb
          · exact dig_plain ⟨r.1.toNat, by omega⟩ b hb
          · rcases List.mem_cons.mp hb with hb | hb
            · rw [hb]; decide
            · exact dig_plain ⟨r.2.toNat, by omega⟩ b hb
        · exact dig_plain ⟨r.1.toNat, by omega⟩ b hb
      · rw [hb]; decide

theorem read_nil : ∀ k : Fin 5, (readO k.val []).2.2 = 160 := by decide +kernel

theorem text_ne {k : Nat} (hk : k < 5) {m : Nat} (hm : okF k (m : Int) = true) : textO k m ≠ [] := by
  intro e
  have h := (text_back hk hm).2
  rw [e] at h
  have := read_nil ⟨k, hk⟩
  simp only at this
  rw [h] at this
  simp at this

theorem fold_new {t : List UInt8} (h0 : t ≠ []) (h : ∀ b ∈ t, b ≠ 32) (out : List (Nat × List UInt8)) (p : Nat) : t.foldl stepW (out, true, p) = (out ++ [(p, t)], false, p + t.length) := by
  cases t with
  | nil => exact absurd rfl h0
  | cons b w =>
    rw [List.foldl_cons]
    have e : stepW (out, true, p) b = (out ++ [(p, [b])], false, p + 1) := by unfold stepW; rw [if_neg (h b (by simp))]; rfl
    rw [e, fold_word w (fun hm => h 32 (by simp [hm]) rfl)]
    simp; omega

theorem fold_next {t : List UInt8} (h0 : t ≠ []) (h : ∀ b ∈ t, b ≠ 32) (out : List (Nat × List UInt8)) (x : Bool) (p : Nat) : t.foldl stepW (stepW (out, x, p) 32) = (out ++ [(p + 1, t)], false, p + 1 + t.length) := fold_new h0 h out (p + 1)

theorem words5 {a b c d e : List UInt8} (ha : a ≠ [] ∧ ∀ x ∈ a, x ≠ 32) (hb : b ≠ [] ∧ ∀ x ∈ b, x ≠ 32) (hc : c ≠ [] ∧ ∀ x ∈ c, x ≠ 32) (hd : d ≠ [] ∧ ∀ x ∈ d, x ≠ 32) (he : e ≠ [] ∧ ∀ x ∈ e, x ≠ 32) :
    (wordsO (Lib.join [a, b, c, d, e] [32])).map (·.2) = [a, b, c, d, e] := by
  rw [join5, ← words_fold]
  simp only [List.foldl_append, List.foldl_cons]
  rw [fold_new ha.1 ha.2, fold_next hb.1 hb.2, fold_next hc.1 hc.2, fold_next hd.1 hd.2, fold_next he.1 he.2]
  rfl

/-- how a row of words reads, when each is a field's text -/
theorem goC_five {ws : List (Nat × List UInt8)} {a b c d e : List UInt8} {m0 m1 m2 m3 m4 : Int} (hw : ws.map (·.2) = [a, b, c, d, e])
    (h0 : readO 0 a = (m0, 0, 0)) (h1 : readO 1 b = (m1, 0, 0)) (h2 : readO 2 c = (m2, 0, 0)) (h3 : readO 3 d = (m3, 0, 0)) (h4 : readO 4 e = (m4, 0, 0)) : goC ws 0 f0 = .inr (5, (m0, m1, m2, m3, m4)) := by
  match ws, hw with
  | [w0, w1, w2, w3, w4], hw =>
    simp only [List.map_cons, List.map_nil, List.cons.injEq, and_true] at hw
    obtain ⟨rfl, rfl, rfl, rfl, rfl⟩ := hw
    simp [goC, h0, h1, h2, h3, h4, setF, f0]

theorem text_two {k : Nat} (hk : k < 5) {x : Int} (hx : U64 x) (h : okF k x = true) : readO k (textO k x.toNat) = (x, 0, 0) ∧ textO k x.toNat ≠ [] ∧ (∀ b ∈ textO k x.toNat, b ≠ 32) ∧ ∀ b ∈ textO k x.toNat, b ≠ 64 := by
  obtain ⟨m, rfl⟩ : ∃ m : Nat, x = m := ⟨x.toNat, by have := hx.1; omega⟩
  exact ⟨(text_back hk h).2, text_ne hk h, fun b hb => (text_plain hk h b hb).1, fun b hb => (text_plain hk h b hb).2⟩

/-- the text of a cron is read as the cron -/
theorem cron_back {c : Cron} (hc : c.in) (hok : c.ok = true) : cronO (textC c) = ((c.mi, c.ho, c.da, c.mo, c.we), 0, true) := by
  obtain ⟨h0, h1, h2, h3, h4⟩ := hc
  unfold Cron.ok at hok
  simp only [Bool.and_eq_true] at hok
  obtain ⟨⟨⟨⟨e0, e1⟩, e2⟩, e3⟩, e4⟩ := hok
  obtain ⟨r0, n0, p0, q0⟩ := text_two (k := 0) (by decide) h0 e0
  obtain ⟨r1, n1, p1, _⟩ := text_two (k := 1) (by decide) h1 e1
  obtain ⟨r2, n2, p2, _⟩ := text_two (k := 2) (by decide) h2 e2
  obtain ⟨r3, n3, p3, _⟩ := text_two (k := 3) (by decide) h3 e3
  obtain ⟨r4, n4, p4, _⟩ := text_two (k := 4) (by decide) h4 e4
  have hw := words5 ⟨n0, p0⟩ ⟨n1, p1⟩ ⟨n2, p2⟩ ⟨n3, p3⟩ ⟨n4, p4⟩
  have hg := goC_five hw r0 r1 r2 r3 r4
  show (match wordsO (textC c) with | x :: r => _ | [] => _) = _
  unfold textC
  generalize wordsO (Lib.join [textO 0 c.mi.toNat, textO 1 c.ho.toNat, textO 2 c.da.toNat, textO 3 c.mo.toNat, textO 4 c.we.toNat] [32]) = ws at *
  cases ws with
  | nil => cases hw
  | cons x r =>
    simp only
    have hx : x.2 = textO 0 c.mi.toNat := by simp only [List.map_cons, List.cons.injEq] at hw; exact hw.1
    have hh : x.2.headD 0 ≠ 64 := by
      rw [hx]
      cases ht : textO 0 c.mi.toNat with
      | nil => exact absurd ht n0
      | cons b t => exact q0 b (by rw [ht]; simp)
    rw [if_neg hh]
    unfold cronP
    rw [hg]
    simp
end Go.Proofs.YtnjkboeibcoojaaGreatDoor
/- The text of a cron is not too long. -/
namespace Go.Proofs.YtnjkboeibcoojaaGreatDoor
open Go Go.B
set_option linter.unusedSimpArgs false
set_option linter.unusedVariables false
set_option linter.unusedSectionVars false
set_option maxRecDepth 20000

/-- three times the signs that numbers below n may take -/
def roomN (n : Nat) : Nat := 4 * min n 10 + 6 * (n - 10)

theorem digL_l (n : Nat) : (digL n).length = if n < 10 then 1 else 2 := by unfold digL; split <;> rfl

theorem run_room {a e : Nat} (h : a ≤ e) : 3 * ((runT ((a : Int), (e : Int))).length + 1) + roomN a ≤ roomN (e + 2) := by
  unfold runT roomN
  simp only [Int.toNat_natCast]
  split
  · rw [List.length_append, List.length_cons, digL_l, digL_l]
    split <;> split <;> omega
  · rw [digL_l]
    split <;> omega

theorem tot_append (a b : List (List UInt8)) : tot (a ++ b) = tot a + tot b := by simp [tot]

theorem roomN_mono {a b : Nat} (h : a ≤ b) : roomN a ≤ roomN b := by unfold roomN; omega

theorem runs_room {m lo : Nat} (hm : m < 9223372036854775808) (hlo : ∀ j, Nat.testBit m j = true → lo ≤ j) : ∀ (i N : Nat), i ≤ 64 → lo ≤ N → (∀ r ∈ (lstB (stB (Nat.testBit m)) i).map (runF m), r.2 + 2 ≤ (N : Int)) →
    3 * tot (((lstB (stB (Nat.testBit m)) i).map (runF m)).map runT) + roomN lo ≤ roomN N
  | 0, N, _, h, _ => by simp [lstB, tot]; exact roomN_mono h
  | i + 1, N, hi, hN, hr => by
    cases hs : stB (Nat.testBit m) i
    · rw [lstB_no hs] at hr ⊢
      exact runs_room hm hlo i N (by omega) hN hr
    · rw [lstB_yes hs, List.map_append, List.map_cons, List.map_nil] at hr ⊢
      have hp := hs
      unfold stB at hp
      rw [Bool.and_eq_true] at hp
      obtain ⟨hp1, hp2⟩ := hp
      have hli := hlo i hp1
      have h1 := runs_room hm hlo i i (by omega) hli (fun r hr0 => by
        obtain ⟨a, ha, rfl⟩ := List.mem_map.mp hr0
        have hb := lstB_mem ha
        have hi0 : 0 < i := by omega
        have hq : Nat.testBit m (i - 1) = false := by simpa [hi0] using hp2
        have := runLen_le (Nat.testBit m) 64 a.toNat (i - 1) (by omega) hq
        unfold runF
        simp only
        omega)
      have h2 := hr (runF m (i : Int)) (by simp)
      have hmem : runF m (i : Int) ∈ runsO m := by
        unfold runsO
        exact List.mem_map.mpr ⟨(i : Int), lstB_has (by omega) hs, rfl⟩
      have hb := runsO_mem hm hmem
      have hrun := run_room (a := (runF m (i : Int)).1.toNat) (e := (runF m (i : Int)).2.toNat) (by omega)
      rw [show (((runF m (i : Int)).1.toNat : Int), ((runF m (i : Int)).2.toNat : Int)) = runF m (i : Int) from Prod.ext (by simp only; omega) (by simp only; omega)] at hrun
      have ea : (runF m (i : Int)).1 = (i : Int) := rfl
      rw [ea, Int.toNat_natCast] at hrun
      have hmono := roomN_mono (a := (runF m (i : Int)).2.toNat + 2) (b := N) (by omega)
      rw [List.map_append, tot_append]
      have e1 : tot ([runF m (i : Int)].map runT) = (runT (runF m (i : Int))).length + 1 := by simp [tot]
      rw [e1]
      omega

theorem text_room {k : Nat} (hk : k < 5) {m : Nat} (hm : okF k (m : Int) = true) : 3 * ((textO k m).length + 1) + roomN (loA k).toNat ≤ roomN ((hiA k).toNat + 2) := by
  have hb := ends_bd k hk
  obtain ⟨hlt, h0⟩ := okF_lt hk hm
  have hin := inK_of hk hm
  have base : 15 + roomN (loA k).toNat ≤ roomN ((hiA k).toNat + 2) := by
    match k, hk with
    | 0, _ | 1, _ | 2, _ | 3, _ | 4, _ => decide
  unfold textO
  split
  · show 3 * 2 + _ ≤ _; omega
  · split
    · rename_i n hs
      have := digL_len n
      simp only [List.length_cons]
      omega
    · have hne : (runsO m).map runT ≠ [] := by simpa using runs_ne hlt h0
      have hpl : ∀ x ∈ (runsO m).map runT, (44 : UInt8) ∉ x := by
        intro x hx
        obtain ⟨r, hr, rfl⟩ := List.mem_map.mp hx
        have h1 := runsO_mem hlt hr
        have hb2 := hr
        unfold runsO at hb2
        obtain ⟨a, ha, rfl⟩ := List.mem_map.mp hb2
        have hba := lstB_mem ha
        have b1 := runLen_all (Nat.testBit m) 64 a.toNat 0 (by unfold runF at h1; simp only at h1; omega)
        have b2 := runLen_all (Nat.testBit m) 64 a.toNat (runLen (Nat.testBit m) 64 a.toNat - 1) (by unfold runF at h1; simp only at h1; omega)
        have i1 := hin _ b1
        have i2 := hin _ b2
        have hi := (item_run hk (f := (runF m a).1.toNat) (t := (runF m a).2.toNat) (by unfold runF at h1 ⊢; simp only at h1 ⊢; omega) (by unfold runF at h1 ⊢; simp only at h1 ⊢; omega) (by omega)).2
        rwa [show (((runF m a).1.toNat : Int), ((runF m a).2.toNat : Int)) = runF m a from Prod.ext (by simp only; omega) (by simp only; omega)] at hi
      have ht : tot ((runsO m).map runT) = (Lib.join ((runsO m).map runT) [44]).length + 1 := by
        have := tot_splitN 44 (Lib.join ((runsO m).map runT) [44]).length (Lib.join ((runsO m).map runT) [44])
        have e := split_join _ hne hpl
        unfold splitC at e
        rw [e] at this
        exact this
      have hroom := runs_room (lo := (loA k).toNat) hlt (fun j hj => by have := hin j hj; omega) 64 ((hiA k).toNat + 2) (by omega) (by omega) (fun r hr => by
        have h1 := runsO_mem hlt hr
        obtain ⟨a, ha, rfl⟩ := List.mem_map.mp hr
        have hba := lstB_mem ha
        have b2 := runLen_all (Nat.testBit m) 64 a.toNat (runLen (Nat.testBit m) 64 a.toNat - 1) (by unfold runF at h1; simp only at h1; omega)
        have i2 := hin _ b2
        unfold runF at h1 ⊢
        simp only at h1 ⊢
        omega)
      have e : ((lstB (stB (Nat.testBit m)) 64).map (runF m)) = runsO m := rfl
      rw [e, ht] at hroom
      exact hroom

/-- at most 245 signs -/
theorem textC_len {c : Cron} (hc : c.in) (hok : c.ok = true) : (textC c).length ≤ 256 := by
  obtain ⟨h0, h1, h2, h3, h4⟩ := hc
  unfold Cron.ok at hok
  simp only [Bool.and_eq_true] at hok
  obtain ⟨⟨⟨⟨e0, e1⟩, e2⟩, e3⟩, e4⟩ := hok
  have get : ∀ {k : Nat} {x : Int}, k < 5 → U64 x → okF k x = true → 3 * ((textO k x.toNat).length + 1) + roomN (loA k).toNat ≤ roomN ((hiA k).toNat + 2) := by
    intro k x hk hx h
    obtain ⟨m, rfl⟩ : ∃ m : Nat, x = m := ⟨x.toNat, by have := hx.1; omega⟩
    exact text_room hk h
  have g0 := get (by decide) h0 e0
  have g1 := get (by decide) h1 e1
  have g2 := get (by decide) h2 e2
  have g3 := get (by decide) h3 e3
  have g4 := get (by decide) h4 e4
  have c0 : roomN (loA 0).toNat = 0 ∧ roomN ((hiA 0).toNat + 2) = 346 := by decide
  have c1 : roomN (loA 1).toNat = 0 ∧ roomN ((hiA 1).toNat + 2) = 130 := by decide
  have c2 : roomN (loA 2).toNat = 4 ∧ roomN ((hiA 2).toNat + 2) = 178 := by decide
  have c3 : roomN (loA 3).toNat = 4 ∧ roomN ((hiA 3).toNat + 2) = 64 := by decide
  have c4 : roomN (loA 4).toNat = 0 ∧ roomN ((hiA 4).toNat + 2) = 32 := by decide
  unfold textC
  rw [join5]
  simp only [List.length_append, List.length_cons]
  omega
end Go.Proofs.YtnjkboeibcoojaaGreatDoor
