/- What Go functions come to (printed by gb.py). -/
import Derived.Test.YtbammhmbapeboaaGreatDoorGxa
namespace Go.Proofs.YtbammhmbapeboaaGreatDoor
open Go Go.B Go.RowKit
set_option linter.unusedVariables false
set_option linter.unusedSimpArgs false
set_option maxRecDepth 100000
attribute [local irreducible] Go.B.acall Go.B.acode
noncomputable def u335_127_cx : Cx := ⟨tyT, [c335], gsT, eqT, false, [1000000, 34]⟩
def u335_127 : (Int) × (Int) := (1, 1)
theorem u335_127_t : acall u335_127_cx okT lpT 400 (.fn 335 [] []) (RT.shape S335A u335_127.1) [] (leafK S335B u335_127.2) = (u335_127.2 = u335_127.2) := by kernel_rfl
theorem u335_127_at : At Tryz.prog gsT 335 S335A S335B u335_127 := fo (c := u335_127_cx) rfl rfl (Fns_assoc ⟨b335, trivial⟩) (n := 400) (lp_ok) (enters Tryz.func335 (by kernel_rfl) rfl) (fun y => ⟨_, rfl⟩) fun x y h => at_eq (Q := fun x y => acall u335_127_cx okT lpT 400 (.fn 335 [] []) (RT.shape S335A x) [] (leafK S335B y)) (Eq.mpr u335_127_t rfl) h
noncomputable def u327_128_cx : Cx := ⟨tyT, [c327, (335, tabE S335A S335B u335_127.2 [u335_127])], gsT, eqT, false, [1000000, 34]⟩
def u327_128 : (Int) × (Int) := (1, 1)
theorem u327_128_t : acall u327_128_cx okT lpT 400 (.fn 327 [] []) (RT.shape S327A u327_128.1) [] (leafK S327B u327_128.2) = (u327_128.2 = u327_128.2) := by kernel_rfl
theorem u327_128_at : At Tryz.prog gsT 327 S327A S327B u327_128 := fo (c := u327_128_cx) rfl rfl (Fns_assoc ⟨b327, tab_ok ⟨u335_127_at, trivial⟩, trivial⟩) (n := 400) (lp_ok) (enters Tryz.func327 (by kernel_rfl) rfl) (fun y => ⟨_, rfl⟩) fun x y h => at_eq (Q := fun x y => acall u327_128_cx okT lpT 400 (.fn 327 [] []) (RT.shape S327A x) [] (leafK S327B y)) (Eq.mpr u327_128_t rfl) h
noncomputable def u299_129_cx : Cx := ⟨tyT, [c299], gsT, eqT, false, [1000000, 34]⟩
def u299_129 : (Int) × (Int) := (1, 0)
theorem u299_129_t : acall u299_129_cx okT lpT 400 (.fn 299 [] []) (RT.shape S299A u299_129.1) [] (leafK S299B u299_129.2) = (u299_129.2 = u299_129.2) := by kernel_rfl
theorem u299_129_at : At Tryz.prog gsT 299 S299A S299B u299_129 := fo (c := u299_129_cx) rfl rfl (Fns_assoc ⟨b299, trivial⟩) (n := 400) (lp_ok) (enters Tryz.func299 (by kernel_rfl) rfl) (fun y => ⟨_, rfl⟩) fun x y h => at_eq (Q := fun x y => acall u299_129_cx okT lpT 400 (.fn 299 [] []) (RT.shape S299A x) [] (leafK S299B y)) (Eq.mpr u299_129_t rfl) h
noncomputable def u315_130_cx : Cx := ⟨tyT, [c273, c298, (299, tabE S299A S299B u299_129.2 [u299_129]), c315, (327, tabE S327A S327B u327_128.2 [u327_128])], gsT, eqT, false, [1000000, 34]⟩
def u315_130 : (Int) × (List Int) := (1, [0])
def u315_130_F (i : Ip) : Prop :=
  (i.cp 1 fun c1 hc1 => (u315_130.2 = u315_130.2))
theorem u315_130_t : acall u315_130_cx okT lpT 400 (.fn 315 [] []) (RT.shape S315A u315_130.1) [] (leafK S315B u315_130.2) = u315_130_F ipT := by kernel_rfl
theorem u315_130_r : u315_130_F ipT := by
  unfold u315_130_F
  refine MI.run (A := (u315_130.2 = u315_130.2)) ?_ rfl
  repeat' (first | intro _ | with_reducible constructor)
theorem u315_130_at : At Tryz.prog gsT 315 S315A S315B u315_130 := fo (c := u315_130_cx) rfl rfl (Fns_assoc ⟨b273, b298, tab_ok ⟨u299_129_at, trivial⟩, b315, tab_ok ⟨u327_128_at, trivial⟩, trivial⟩) (n := 400) (lp_ok) (enters Tryz.func315 (by kernel_rfl) rfl) (fun y => ⟨_, rfl⟩) fun x y h => at_eq (Q := fun x y => acall u315_130_cx okT lpT 400 (.fn 315 [] []) (RT.shape S315A x) [] (leafK S315B y)) (Eq.mpr u315_130_t u315_130_r) h
abbrev S179A : RT := (.cons (.agg (.cons (.int .u64) (.cons (.int .u64) (.cons (.int .u64) (.cons (.int .u64) (.one (.int .u64))))))) (.one (.int .i64)))
abbrev S179B : RT := (.tup (.cons (.int .i64) (.one .bool)))
noncomputable def c179 : Nat × Ent := (179, .body Tryz.f179)
theorem b179 {c : Cx} : EntOk Tryz.prog c 179 (.body Tryz.f179) := body_ent Tryz.func179 (by kernel_rfl) (by kernel_rfl)
noncomputable def c218 : Nat × Ent := (218, .body Tryz.f218)
theorem b218 {c : Cx} : EntOk Tryz.prog c 218 (.body Tryz.f218) := body_ent Tryz.func218 (by kernel_rfl) (by kernel_rfl)
noncomputable def c220 : Nat × Ent := (220, .body Tryz.f220)
theorem b220 {c : Cx} : EntOk Tryz.prog c 220 (.body Tryz.f220) := body_ent Tryz.func220 (by kernel_rfl) (by kernel_rfl)
noncomputable def c254 : Nat × Ent := (254, .body Tryz.f254)
theorem b254 {c : Cx} : EntOk Tryz.prog c 254 (.body Tryz.f254) := body_ent Tryz.func254 (by kernel_rfl) (by kernel_rfl)
noncomputable def c255 : Nat × Ent := (255, .body Tryz.f255)
theorem b255 {c : Cx} : EntOk Tryz.prog c 255 (.body Tryz.f255) := body_ent Tryz.func255 (by kernel_rfl) (by kernel_rfl)
noncomputable def c289 : Nat × Ent := (289, .body Tryz.f289)
theorem b289 {c : Cx} : EntOk Tryz.prog c 289 (.body Tryz.f289) := body_ent Tryz.func289 (by kernel_rfl) (by kernel_rfl)
noncomputable def c292 : Nat × Ent := (292, .body Tryz.f292)
theorem b292 {c : Cx} : EntOk Tryz.prog c 292 (.body Tryz.f292) := body_ent Tryz.func292 (by kernel_rfl) (by kernel_rfl)
noncomputable def c293 : Nat × Ent := (293, .body Tryz.f293)
theorem b293 {c : Cx} : EntOk Tryz.prog c 293 (.body Tryz.f293) := body_ent Tryz.func293 (by kernel_rfl) (by kernel_rfl)
noncomputable def c314 : Nat × Ent := (314, .body Tryz.f314)
theorem b314 {c : Cx} : EntOk Tryz.prog c 314 (.body Tryz.f314) := body_ent Tryz.func314 (by kernel_rfl) (by kernel_rfl)
noncomputable def u179_131_cx : Cx := ⟨tyT, [(140, tabE S140A S140B u140_80.2 [u140_80]), c179, c218, (219, tabE S219A S219B u219_81.2 [u219_81]), c220, c254, c255, c289, (290, tabE S290A S290B u290_94.2 [u290_94]), (291, tabE S291A S291B u291_99.2 [u291_99]), c292, c293, c314, (315, tabE S315A S315B u315_130.2 [u315_130, u315_126])], gsT, eqT, false, [1000000, 34]⟩
def u179_131 : ((Int × Int × Int × Int × Int) × Int) × (Int × Bool) := (((1, (16777215, (4294967294, (8190, 127)))), (-1)), (0, true))
def u179_131_F (i : Ip) : Prop :=
  (i.an 1 (u179_131.2 = u179_131.2))
theorem u179_131_t : acall u179_131_cx okT lpT 400 (.fn 179 [] []) (RT.shape S179A u179_131.1) [] (leafK S179B u179_131.2) = u179_131_F ipT := by kernel_rfl
theorem u179_131_r : u179_131_F ipT := by
  unfold u179_131_F
  refine MI.run (A := (u179_131.2 = u179_131.2)) ?_ rfl
  repeat' (first | intro _ | with_reducible constructor)
theorem u179_131_at : At Tryz.prog gsT 179 S179A S179B u179_131 := fo (c := u179_131_cx) rfl rfl (Fns_assoc ⟨tab_ok ⟨u140_80_at, trivial⟩, b179, b218, tab_ok ⟨u219_81_at, trivial⟩, b220, b254, b255, b289, tab_ok ⟨u290_94_at, trivial⟩, tab_ok ⟨u291_99_at, trivial⟩, b292, b293, b314, tab_ok ⟨u315_130_at, u315_126_at, trivial⟩, trivial⟩) (n := 400) (lp_ok) (enters Tryz.func179 (by kernel_rfl) rfl) (fun y => ⟨_, rfl⟩) fun x y h => at_eq (Q := fun x y => acall u179_131_cx okT lpT 400 (.fn 179 [] []) (RT.shape S179A x) [] (leafK S179B y)) (Eq.mpr u179_131_t u179_131_r) h
abbrev S141A : RT := (.one (.agg (.cons (.int .u64) (.cons (.int .u64) (.cons (.int .u64) (.cons (.int .u64) (.one (.int .u64))))))))
abbrev S141B : RT := .bool
noncomputable def c141 : Nat × Ent := (141, .body Tryz.f141)
theorem b141 {c : Cx} : EntOk Tryz.prog c 141 (.body Tryz.f141) := body_ent Tryz.func141 (by kernel_rfl) (by kernel_rfl)
noncomputable def u141_132_cx : Cx := ⟨tyT, [c141, (179, tabE S179A S179B u179_131.2 [u179_131])], gsT, eqT, false, [1000000, 34]⟩
def u141_132 : (Int × Int × Int × Int × Int) × (Bool) := ((1, (16777215, (4294967294, (8190, 127)))), true)
theorem u141_132_t : acall u141_132_cx okT lpT 400 (.fn 141 [] []) (RT.shape S141A u141_132.1) [] (leafK S141B u141_132.2) = (u141_132.2 = u141_132.2) := by kernel_rfl
theorem u141_132_at : At Tryz.prog gsT 141 S141A S141B u141_132 := fo (c := u141_132_cx) rfl rfl (Fns_assoc ⟨b141, tab_ok ⟨u179_131_at, trivial⟩, trivial⟩) (n := 400) (lp_ok) (enters Tryz.func141 (by kernel_rfl) rfl) (fun y => ⟨_, rfl⟩) fun x y h => at_eq (Q := fun x y => acall u141_132_cx okT lpT 400 (.fn 141 [] []) (RT.shape S141A x) [] (leafK S141B y)) (Eq.mpr u141_132_t rfl) h
noncomputable def u103_133_cx : Cx := ⟨tyT, [c103, (139, tabE S139A S139B u139_20.2 [u139_20]), (140, tabE S140A S140B u140_80.2 [u140_80]), (141, tabE S141A S141B u141_132.2 [u141_132])], gsT, eqT, false, [1000000, 34]⟩
def u103_133 : (Int × Bool × Int × Int × Int × Int × Int × Int × Int × Int × Int) × (Int) := ((7, (false, (1, (16777215, (4294967294, (8190, (127, (0, (0, (0, 0)))))))))), 0)
theorem u103_133_t : acall u103_133_cx okT lpT 400 (.fn 103 [] []) (RT.shape S103A u103_133.1) [] (leafK S103B u103_133.2) = (u103_133.2 = u103_133.2) := by kernel_rfl
theorem u103_133_at : At Tryz.prog gsT 103 S103A S103B u103_133 := fo (c := u103_133_cx) rfl rfl (Fns_assoc ⟨b103, tab_ok ⟨u139_20_at, trivial⟩, tab_ok ⟨u140_80_at, trivial⟩, tab_ok ⟨u141_132_at, trivial⟩, trivial⟩) (n := 400) (lp_ok) (enters Tryz.func103 (by kernel_rfl) rfl) (fun y => ⟨_, rfl⟩) fun x y h => at_eq (Q := fun x y => acall u103_133_cx okT lpT 400 (.fn 103 [] []) (RT.shape S103A x) [] (leafK S103B y)) (Eq.mpr u103_133_t rfl) h
abbrev S128A : RT := (.one (.agg (.cons (.int .u32) (.cons .str (.cons (.int .i64) (.cons (.int .i64) (.cons (.int .i64) (.one (.int .i64)))))))))
abbrev S128B : RT := (.tup (.cons (.agg (.cons (.int .u32) (.cons .bool (.cons (.int .u64) (.cons (.int .u64) (.cons (.int .u64) (.cons (.int .u64) (.cons (.int .u64) (.cons (.int .i64) (.cons (.int .i64) (.cons (.int .i64) (.one (.int .i64))))))))))))) (.one (.int .i64))))
noncomputable def c128 : Nat × Ent := (128, .body Tryz.f128)
theorem b128 {c : Cx} : EntOk Tryz.prog c 128 (.body Tryz.f128) := body_ent Tryz.func128 (by kernel_rfl) (by kernel_rfl)
noncomputable def u128_134_cx : Cx := ⟨tyT, [(103, tabE S103A S103B u103_133.2 [u103_133, u103_21]), c128, (170, tabE S170A S170B u170_62.2 [u170_62])], gsT, eqT, false, [1000000, 34]⟩
def u128_134 : (Int × ByteArray × Int × Int × Int × Int) × ((Int × Bool × Int × Int × Int × Int × Int × Int × Int × Int × Int) × Int) := ((7, ((⟨#[64, 104, 111, 117, 114, 108, 121]⟩ : ByteArray), (0, (0, (0, 0))))), ((7, (false, (1, (16777215, (4294967294, (8190, (127, (0, (0, (0, 0)))))))))), 0))
def u128_134_F (i : Ip) : Prop :=
  (i.an 1 (u128_134.2 = u128_134.2))
theorem u128_134_t : acall u128_134_cx okT lpT 400 (.fn 128 [] []) (RT.shape S128A u128_134.1) [] (leafK S128B u128_134.2) = u128_134_F ipT := by kernel_rfl
theorem u128_134_r : u128_134_F ipT := by
  unfold u128_134_F
  refine MI.run (A := (u128_134.2 = u128_134.2)) ?_ rfl
  repeat' (first | intro _ | with_reducible constructor)
theorem u128_134_at : At Tryz.prog gsT 128 S128A S128B u128_134 := fo (c := u128_134_cx) rfl rfl (Fns_assoc ⟨tab_ok ⟨u103_133_at, u103_21_at, trivial⟩, b128, tab_ok ⟨u170_62_at, trivial⟩, trivial⟩) (n := 400) (lp_ok) (enters Tryz.func128 (by kernel_rfl) rfl) (fun y => ⟨_, rfl⟩) fun x y h => at_eq (Q := fun x y => acall u128_134_cx okT lpT 400 (.fn 128 [] []) (RT.shape S128A x) [] (leafK S128B y)) (Eq.mpr u128_134_t u128_134_r) h
abbrev S171A : RT := (.cons (.sl (.pr (.pr (.int .u32) (.pr .bool (.pr (.pr (.int .u64) (.pr (.int .u64) (.pr (.int .u64) (.pr (.int .u64) (.int .u64))))) (.pr (.int .i64) (.pr (.int .i64) (.pr (.int .i64) (.int .i64))))))) (.pr .bool (.pr (.int .i64) (.pr (.pr (.int .u64) (.pr (.int .i64) (.int .i64))) (.sl (.int .i64))))))) (.one (.int .u32)))
abbrev S171B : RT := (.tup (.cons (.int .i64) (.one .bool)))
noncomputable def c171 : Nat × Ent := (171, .body Tryz.f171)
theorem b171 {c : Cx} : EntOk Tryz.prog c 171 (.body Tryz.f171) := body_ent Tryz.func171 (by kernel_rfl) (by kernel_rfl)
noncomputable def c210 : Nat × Ent := (210, .body Tryz.f210)
theorem b210 {c : Cx} : EntOk Tryz.prog c 210 (.body Tryz.f210) := body_ent Tryz.func210 (by kernel_rfl) (by kernel_rfl)
noncomputable def u171_135_cx : Cx := ⟨tyT, [c171, c210], gsT, eqT, false, [1000000, 34]⟩
def u171_135 : ((List ((Int × Bool × (Int × Int × Int × Int × Int) × Int × Int × Int × Int) × Bool × Int × (Int × Int × Int) × List Int)) × Int) × (Int × Bool) := (([], 7), (0, false))
theorem u171_135_t : acall u171_135_cx okT lpT 400 (.fn 171 [] []) (RT.shape S171A u171_135.1) [] (leafK S171B u171_135.2) = (u171_135.2 = u171_135.2) := by kernel_rfl
theorem u171_135_at : At Tryz.prog gsT 171 S171A S171B u171_135 := fo (c := u171_135_cx) rfl rfl (Fns_assoc ⟨b171, b210, trivial⟩) (n := 400) (lp_ok) (enters Tryz.func171 (by kernel_rfl) rfl) (fun y => ⟨_, rfl⟩) fun x y h => at_eq (Q := fun x y => acall u171_135_cx okT lpT 400 (.fn 171 [] []) (RT.shape S171A x) [] (leafK S171B y)) (Eq.mpr u171_135_t rfl) h
noncomputable def u219_136_cx : Cx := ⟨tyT, [c219], gsT, eqT, false, [1000000, 34]⟩
def u219_136 : (Int) × (Int) := (0, 0)
theorem u219_136_t : acall u219_136_cx okT lpT 400 (.fn 219 [] []) (RT.shape S219A u219_136.1) [] (leafK S219B u219_136.2) = (u219_136.2 = u219_136.2) := by kernel_rfl
theorem u219_136_at : At Tryz.prog gsT 219 S219A S219B u219_136 := fo (c := u219_136_cx) rfl rfl (Fns_assoc ⟨b219, trivial⟩) (n := 400) (lp_ok) (enters Tryz.func219 (by kernel_rfl) rfl) (fun y => ⟨_, rfl⟩) fun x y h => at_eq (Q := fun x y => acall u219_136_cx okT lpT 400 (.fn 219 [] []) (RT.shape S219A x) [] (leafK S219B y)) (Eq.mpr u219_136_t rfl) h
noncomputable def u179_137_cx : Cx := ⟨tyT, [(140, tabE S140A S140B u140_80.2 [u140_80]), c179, c218, (219, tabE S219A S219B u219_136.2 [u219_136]), c220, c254, c255, c289, (290, tabE S290A S290B u290_94.2 [u290_94]), (291, tabE S291A S291B u291_99.2 [u291_99]), c292, c293, c314, (315, tabE S315A S315B u315_130.2 [u315_130, u315_126])], gsT, eqT, false, [1000000, 34]⟩
def u179_137 : ((Int × Int × Int × Int × Int) × Int) × (Int × Bool) := (((1, (16777215, (4294967294, (8190, 127)))), 0), (3600, true))
def u179_137_F (i : Ip) : Prop :=
  (i.an 1 (u179_137.2 = u179_137.2))
theorem u179_137_t : acall u179_137_cx okT lpT 400 (.fn 179 [] []) (RT.shape S179A u179_137.1) [] (leafK S179B u179_137.2) = u179_137_F ipT := by kernel_rfl
theorem u179_137_r : u179_137_F ipT := by
  unfold u179_137_F
  refine MI.run (A := (u179_137.2 = u179_137.2)) ?_ rfl
  repeat' (first | intro _ | with_reducible constructor)
theorem u179_137_at : At Tryz.prog gsT 179 S179A S179B u179_137 := fo (c := u179_137_cx) rfl rfl (Fns_assoc ⟨tab_ok ⟨u140_80_at, trivial⟩, b179, b218, tab_ok ⟨u219_136_at, trivial⟩, b220, b254, b255, b289, tab_ok ⟨u290_94_at, trivial⟩, tab_ok ⟨u291_99_at, trivial⟩, b292, b293, b314, tab_ok ⟨u315_130_at, u315_126_at, trivial⟩, trivial⟩) (n := 400) (lp_ok) (enters Tryz.func179 (by kernel_rfl) rfl) (fun y => ⟨_, rfl⟩) fun x y h => at_eq (Q := fun x y => acall u179_137_cx okT lpT 400 (.fn 179 [] []) (RT.shape S179A x) [] (leafK S179B y)) (Eq.mpr u179_137_t u179_137_r) h
abbrev S142A : RT := (.cons (.agg (.cons (.int .u32) (.cons .bool (.cons (.int .u64) (.cons (.int .u64) (.cons (.int .u64) (.cons (.int .u64) (.cons (.int .u64) (.cons (.int .i64) (.cons (.int .i64) (.cons (.int .i64) (.one (.int .i64))))))))))))) (.one (.int .i64)))
abbrev S142B : RT := (.tup (.cons (.int .i64) (.one .bool)))
noncomputable def c142 : Nat × Ent := (142, .body Tryz.f142)
theorem b142 {c : Cx} : EntOk Tryz.prog c 142 (.body Tryz.f142) := body_ent Tryz.func142 (by kernel_rfl) (by kernel_rfl)
noncomputable def c180 : Nat × Ent := (180, .body Tryz.f180)
theorem b180 {c : Cx} : EntOk Tryz.prog c 180 (.body Tryz.f180) := body_ent Tryz.func180 (by kernel_rfl) (by kernel_rfl)
noncomputable def c222 : Nat × Ent := (222, .body Tryz.f222)
theorem b222 {c : Cx} : EntOk Tryz.prog c 222 (.body Tryz.f222) := body_ent Tryz.func222 (by kernel_rfl) (by kernel_rfl)
noncomputable def c259 : Nat × Ent := (259, .body Tryz.f259)
theorem b259 {c : Cx} : EntOk Tryz.prog c 259 (.body Tryz.f259) := body_ent Tryz.func259 (by kernel_rfl) (by kernel_rfl)
noncomputable def u142_138_cx : Cx := ⟨tyT, [(103, tabE S103A S103B u103_133.2 [u103_133]), c142, (179, tabE S179A S179B u179_137.2 [u179_137]), c180, c222, c259], gsT, eqT, false, [1000000, 34]⟩
def u142_138 : ((Int × Bool × Int × Int × Int × Int × Int × Int × Int × Int × Int) × Int) × (Int × Bool) := (((7, (false, (1, (16777215, (4294967294, (8190, (127, (0, (0, (0, 0)))))))))), 0), (3600, true))
theorem u142_138_t : acall u142_138_cx okT lpT 400 (.fn 142 [] []) (RT.shape S142A u142_138.1) [] (leafK S142B u142_138.2) = (u142_138.2 = u142_138.2) := by kernel_rfl
theorem u142_138_at : At Tryz.prog gsT 142 S142A S142B u142_138 := fo (c := u142_138_cx) rfl rfl (Fns_assoc ⟨tab_ok ⟨u103_133_at, trivial⟩, b142, tab_ok ⟨u179_137_at, trivial⟩, b180, b222, b259, trivial⟩) (n := 400) (lp_ok) (enters Tryz.func142 (by kernel_rfl) rfl) (fun y => ⟨_, rfl⟩) fun x y h => at_eq (Q := fun x y => acall u142_138_cx okT lpT 400 (.fn 142 [] []) (RT.shape S142A x) [] (leafK S142B y)) (Eq.mpr u142_138_t rfl) h
abbrev S169A : RT := (.one (.sl (.pr (.pr (.int .u32) (.pr .bool (.pr (.pr (.int .u64) (.pr (.int .u64) (.pr (.int .u64) (.pr (.int .u64) (.int .u64))))) (.pr (.int .i64) (.pr (.int .i64) (.pr (.int .i64) (.int .i64))))))) (.pr .bool (.pr (.int .i64) (.pr (.pr (.int .u64) (.pr (.int .i64) (.int .i64))) (.sl (.int .i64))))))))
abbrev S169B : RT := (.nw (.pr (.pr (.int .u32) (.pr .bool (.pr (.pr (.int .u64) (.pr (.int .u64) (.pr (.int .u64) (.pr (.int .u64) (.int .u64))))) (.pr (.int .i64) (.pr (.int .i64) (.pr (.int .i64) (.int .i64))))))) (.pr .bool (.pr (.int .i64) (.pr (.pr (.int .u64) (.pr (.int .i64) (.int .i64))) (.sl (.int .i64)))))) 83)
noncomputable def c169 : Nat × Ent := (169, .body Tryz.f169)
theorem b169 {c : Cx} : EntOk Tryz.prog c 169 (.body Tryz.f169) := body_ent Tryz.func169 (by kernel_rfl) (by kernel_rfl)
noncomputable def u169_139_cx : Cx := ⟨tyT, [(84, tabE S84A S84B u84_17.2 [u84_17]), c169], gsT, eqT, false, [1000000, 34]⟩
def u169_139 : (List ((Int × Bool × (Int × Int × Int × Int × Int) × Int × Int × Int × Int) × Bool × Int × (Int × Int × Int) × List Int)) × (List ((Int × Bool × (Int × Int × Int × Int × Int) × Int × Int × Int × Int) × Bool × Int × (Int × Int × Int) × List Int)) := ([], [])
def u169_139_F (i : Ip) : Prop :=
  (i.cp 0 fun c1 hc1 => (i.tr (true && (true && (Nat.beq c1 c1))) (band rfl (band rfl (Nat.beq_refl _))) (u169_139.2 = u169_139.2)))
theorem u169_139_t : acall u169_139_cx okT lpT 400 (.fn 169 [] []) (RT.shape S169A u169_139.1) [] (leafK S169B u169_139.2) = u169_139_F ipT := by kernel_rfl
theorem u169_139_r : u169_139_F ipT := by
  unfold u169_139_F
  refine MI.run (A := (u169_139.2 = u169_139.2)) ?_ rfl
  repeat' (first | intro _ | with_reducible constructor)
theorem u169_139_at : At Tryz.prog gsT 169 S169A S169B u169_139 := fo (c := u169_139_cx) rfl rfl (Fns_assoc ⟨tab_ok ⟨u84_17_at, trivial⟩, b169, trivial⟩) (n := 400) (lp_ok) (enters Tryz.func169 (by kernel_rfl) rfl) (fun y => ⟨_, rfl⟩) fun x y h => at_eq (Q := fun x y => acall u169_139_cx okT lpT 400 (.fn 169 [] []) (RT.shape S169A x) [] (leafK S169B y)) (Eq.mpr u169_139_t u169_139_r) h
abbrev S129A : RT := (.cons (.sl (.pr (.pr (.int .u32) (.pr .bool (.pr (.pr (.int .u64) (.pr (.int .u64) (.pr (.int .u64) (.pr (.int .u64) (.int .u64))))) (.pr (.int .i64) (.pr (.int .i64) (.pr (.int .i64) (.int .i64))))))) (.pr .bool (.pr (.int .i64) (.pr (.pr (.int .u64) (.pr (.int .i64) (.int .i64))) (.sl (.int .i64))))))) (.cons (.agg (.cons (.int .u32) (.cons .bool (.cons (.int .u64) (.cons (.int .u64) (.cons (.int .u64) (.cons (.int .u64) (.cons (.int .u64) (.cons (.int .i64) (.cons (.int .i64) (.cons (.int .i64) (.one (.int .i64))))))))))))) (.one (.int .i64))))
abbrev S129B : RT := (.tup (.cons (.sl (.pr (.pr (.int .u32) (.pr .bool (.pr (.pr (.int .u64) (.pr (.int .u64) (.pr (.int .u64) (.pr (.int .u64) (.int .u64))))) (.pr (.int .i64) (.pr (.int .i64) (.pr (.int .i64) (.int .i64))))))) (.pr .bool (.pr (.int .i64) (.pr (.pr (.int .u64) (.pr (.int .i64) (.int .i64))) (.sl (.int .i64))))))) (.one (.int .i64))))
noncomputable def c129 : Nat × Ent := (129, .body Tryz.f129)
theorem b129 {c : Cx} : EntOk Tryz.prog c 129 (.body Tryz.f129) := body_ent Tryz.func129 (by kernel_rfl) (by kernel_rfl)
noncomputable def c172 : Nat × Ent := (172, .body Tryz.f172)
theorem b172 {c : Cx} : EntOk Tryz.prog c 172 (.body Tryz.f172) := body_ent Tryz.func172 (by kernel_rfl) (by kernel_rfl)
noncomputable def u129_140_cx : Cx := ⟨tyT, [(37, tabE S37A S37B u37_0.2 [u37_0]), (38, tabE S38A S38B u38_1.2 [u38_1]), (103, tabE S103A S103B u103_133.2 [u103_133]), c129, (142, tabE S142A S142B u142_138.2 [u142_138]), (169, tabE S169A S169B u169_139.2 [u169_139]), (171, tabE S171A S171B u171_135.2 [u171_135]), c172], gsT, eqT, false, [1000000, 34]⟩
def u129_140 : ((List ((Int × Bool × (Int × Int × Int × Int × Int) × Int × Int × Int × Int) × Bool × Int × (Int × Int × Int) × List Int)) × (Int × Bool × Int × Int × Int × Int × Int × Int × Int × Int × Int) × Int) × ((List ((Int × Bool × (Int × Int × Int × Int × Int) × Int × Int × Int × Int) × Bool × Int × (Int × Int × Int) × List Int)) × Int) := (([], ((7, (false, (1, (16777215, (4294967294, (8190, (127, (0, (0, (0, 0)))))))))), 0)), ([((7, (false, ((1, (16777215, (4294967294, (8190, 127)))), (0, (0, (0, 0)))))), (false, (3600, ((0, (0, 0)), []))))], 0))
def u129_140_F (i : Ip) : Prop :=
  (i.a2 (i.cp 0 fun c1 hc1 => (i.tr ((((true && true) && (Nat.ble c1 c1)) && (true && (Nat.ble 0 c1))) && (true && true)) (band (band (band (band rfl rfl) (ble_same _)) (band rfl hc1)) (band rfl rfl)) (i.tr (((true && true) && (Nat.beq c1 c1)) && true) (band (band (band rfl rfl) (Nat.beq_refl _)) rfl) (i.cp 1 fun c2 hc2 => (u129_140.2 = u129_140.2))))) (i.cp 0 fun c3 hc3 => (i.tr ((((true && true) && (Nat.ble c3 c3)) && (true && (Nat.ble 0 c3))) && (true && true)) (band (band (band (band rfl rfl) (ble_same _)) (band rfl hc3)) (band rfl rfl)) (i.tr (((true && true) && (Nat.beq c3 c3)) && true) (band (band (band rfl rfl) (Nat.beq_refl _)) rfl) (i.cp 1 fun c4 hc4 => (u129_140.2 = u129_140.2))))))
theorem u129_140_t : acall u129_140_cx okT lpT 400 (.fn 129 [] []) (RT.shape S129A u129_140.1) [] (leafK S129B u129_140.2) = u129_140_F ipT := by kernel_rfl
theorem u129_140_r : u129_140_F ipT := by
  unfold u129_140_F
  refine MI.run (A := (u129_140.2 = u129_140.2)) ?_ rfl
  repeat' (first | intro _ | with_reducible constructor)
theorem u129_140_at : At Tryz.prog gsT 129 S129A S129B u129_140 := fo (c := u129_140_cx) rfl rfl (Fns_assoc ⟨tab_ok ⟨u37_0_at, trivial⟩, tab_ok ⟨u38_1_at, trivial⟩, tab_ok ⟨u103_133_at, trivial⟩, b129, tab_ok ⟨u142_138_at, trivial⟩, tab_ok ⟨u169_139_at, trivial⟩, tab_ok ⟨u171_135_at, trivial⟩, b172, trivial⟩) (n := 400) (lp_ok) (enters Tryz.func129 (by kernel_rfl) rfl) (fun y => ⟨_, rfl⟩) fun x y h => at_eq (Q := fun x y => acall u129_140_cx okT lpT 400 (.fn 129 [] []) (RT.shape S129A x) [] (leafK S129B y)) (Eq.mpr u129_140_t u129_140_r) h
noncomputable def u102_141_cx : Cx := ⟨tyT, [c102], gsT, eqT, false, [1000000, 34]⟩
def u102_141 : (List Bool × Bool) × (Int) := (([true, true, true], false), (-1))
theorem u102_141_t : acall u102_141_cx okT lpT 400 (.fn 102 [] []) (RT.shape S102A u102_141.1) [] (leafK S102B u102_141.2) = (u102_141.2 = u102_141.2) := by kernel_rfl
theorem u102_141_at : At Tryz.prog gsT 102 S102A S102B u102_141 := fo (c := u102_141_cx) rfl rfl (Fns_assoc ⟨b102, trivial⟩) (n := 400) (lp_ok) (enters Tryz.func102 (by kernel_rfl) rfl) (fun y => ⟨_, rfl⟩) fun x y h => at_eq (Q := fun x y => acall u102_141_cx okT lpT 400 (.fn 102 [] []) (RT.shape S102A x) [] (leafK S102B y)) (Eq.mpr u102_141_t rfl) h
noncomputable def u62_142_cx : Cx := ⟨tyT, [c62, (102, tabE S102A S102B u102_141.2 [u102_141])], gsT, eqT, false, [1000000, 34]⟩
def u62_142 : (List Bool × Bool) × (Bool) := (([true, true, true], false), false)
theorem u62_142_t : acall u62_142_cx okT lpT 400 (.fn 62 [] []) (RT.shape S62A u62_142.1) [] (leafK S62B u62_142.2) = (u62_142.2 = u62_142.2) := by kernel_rfl
theorem u62_142_at : At Tryz.prog gsT 62 S62A S62B u62_142 := fo (c := u62_142_cx) rfl rfl (Fns_assoc ⟨b62, tab_ok ⟨u102_141_at, trivial⟩, trivial⟩) (n := 400) (lp_ok) (enters Tryz.func62 (by kernel_rfl) rfl) (fun y => ⟨_, rfl⟩) fun x y h => at_eq (Q := fun x y => acall u62_142_cx okT lpT 400 (.fn 62 [] []) (RT.shape S62A x) [] (leafK S62B y)) (Eq.mpr u62_142_t rfl) h
abbrev S66A : RT := (.one (.sl .bool))
abbrev S66B : RT := .bool
noncomputable def c66 : Nat × Ent := (66, .body Tryz.f66)
theorem b66 {c : Cx} : EntOk Tryz.prog c 66 (.body Tryz.f66) := body_ent Tryz.func66 (by kernel_rfl) (by kernel_rfl)
noncomputable def u66_143_cx : Cx := ⟨tyT, [(62, tabE S62A S62B u62_142.2 [u62_142]), c66], gsT, eqT, false, [1000000, 34]⟩
def u66_143 : (List Bool) × (Bool) := ([true, true, true], true)
theorem u66_143_t : acall u66_143_cx okT lpT 400 (.fn 66 [] []) (RT.shape S66A u66_143.1) [] (leafK S66B u66_143.2) = (u66_143.2 = u66_143.2) := by kernel_rfl
theorem u66_143_at : At Tryz.prog gsT 66 S66A S66B u66_143 := fo (c := u66_143_cx) rfl rfl (Fns_assoc ⟨tab_ok ⟨u62_142_at, trivial⟩, b66, trivial⟩) (n := 400) (lp_ok) (enters Tryz.func66 (by kernel_rfl) rfl) (fun y => ⟨_, rfl⟩) fun x y h => at_eq (Q := fun x y => acall u66_143_cx okT lpT 400 (.fn 66 [] []) (RT.shape S66A x) [] (leafK S66B y)) (Eq.mpr u66_143_t rfl) h
abbrev S69A : RT := (.one (.agg (.cons (.int .i64) (.one (.sl (.int .u32))))))
abbrev S69B : RT := (.int .i64)
noncomputable def c69 : Nat × Ent := (69, .body Tryz.f69)
theorem b69 {c : Cx} : EntOk Tryz.prog c 69 (.body Tryz.f69) := body_ent Tryz.func69 (by kernel_rfl) (by kernel_rfl)
noncomputable def u69_144_cx : Cx := ⟨tyT, [(66, tabE S66A S66B u66_143.2 [u66_143]), c69], gsT, eqT, false, [1000000, 34]⟩
def u69_144 : (Int × List Int) × (Int) := ((0, []), 0)
theorem u69_144_t : acall u69_144_cx okT lpT 400 (.fn 69 [] []) (RT.shape S69A u69_144.1) [] (leafK S69B u69_144.2) = (u69_144.2 = u69_144.2) := by kernel_rfl
theorem u69_144_at : At Tryz.prog gsT 69 S69A S69B u69_144 := fo (c := u69_144_cx) rfl rfl (Fns_assoc ⟨tab_ok ⟨u66_143_at, trivial⟩, b69, trivial⟩) (n := 400) (lp_ok) (enters Tryz.func69 (by kernel_rfl) rfl) (fun y => ⟨_, rfl⟩) fun x y h => at_eq (Q := fun x y => acall u69_144_cx okT lpT 400 (.fn 69 [] []) (RT.shape S69A x) [] (leafK S69B y)) (Eq.mpr u69_144_t rfl) h
abbrev S35A : RT := (.one (.sl (.int .u32)))
abbrev S35B : RT := (.nw (.int .u32) 45)
noncomputable def c35 : Nat × Ent := (35, .body Tryz.f35)
theorem b35 {c : Cx} : EntOk Tryz.prog c 35 (.body Tryz.f35) := body_ent Tryz.func35 (by kernel_rfl) (by kernel_rfl)
noncomputable def u35_145_cx : Cx := ⟨tyT, [c35], gsT, eqT, false, [1000000, 34]⟩
def u35_145 : (List Int) × (List Int) := ([], [])
def u35_145_F (i : Ip) : Prop :=
  (i.n2 0 (u35_145.2 = u35_145.2) (i.cp 0 fun c1 hc1 => (i.tr (true && (true && (Nat.beq c1 c1))) (band rfl (band rfl (Nat.beq_refl _))) (u35_145.2 = u35_145.2))))
theorem u35_145_t : acall u35_145_cx okT lpT 400 (.fn 35 [] []) (RT.shape S35A u35_145.1) [] (leafK S35B u35_145.2) = u35_145_F ipT := by kernel_rfl
theorem u35_145_r : u35_145_F ipT := by
  unfold u35_145_F
  refine MI.run (A := (u35_145.2 = u35_145.2)) ?_ rfl
  repeat' (first | intro _ | with_reducible constructor)
theorem u35_145_at : At Tryz.prog gsT 35 S35A S35B u35_145 := fo (c := u35_145_cx) rfl rfl (Fns_assoc ⟨b35, trivial⟩) (n := 400) (lp_ok) (enters Tryz.func35 (by kernel_rfl) rfl) (fun y => ⟨_, rfl⟩) fun x y h => at_eq (Q := fun x y => acall u35_145_cx okT lpT 400 (.fn 35 [] []) (RT.shape S35A x) [] (leafK S35B y)) (Eq.mpr u35_145_t u35_145_r) h
abbrev S113A : RT := (.one (.agg (.cons (.int .i64) (.cons (.int .u64) (.cons (.int .i64) (.one (.sl (.int .u32))))))))
abbrev S113B : RT := (.agg (.cons (.int .i64) (.cons (.int .u64) (.cons (.int .i64) (.one (.sl (.int .u32)))))))
noncomputable def c113 : Nat × Ent := (113, .body Tryz.f113)
theorem b113 {c : Cx} : EntOk Tryz.prog c 113 (.body Tryz.f113) := body_ent Tryz.func113 (by kernel_rfl) (by kernel_rfl)
noncomputable def u113_146_cx : Cx := ⟨tyT, [(35, tabE S35A S35B u35_145.2 [u35_145]), c113], gsT, eqT, false, [1000000, 34]⟩
def u113_146 : (Int × Int × Int × List Int) × (Int × Int × Int × List Int) := ((1, (1, (0, []))), (1, (1, (0, []))))
def u113_146_F (i : Ip) : Prop :=
  (i.cp 0 fun c1 hc1 => (u113_146.2 = u113_146.2))
theorem u113_146_t : acall u113_146_cx okT lpT 400 (.fn 113 [] []) (RT.shape S113A u113_146.1) [] (leafK S113B u113_146.2) = u113_146_F ipT := by kernel_rfl
theorem u113_146_r : u113_146_F ipT := by
  unfold u113_146_F
  refine MI.run (A := (u113_146.2 = u113_146.2)) ?_ rfl
  repeat' (first | intro _ | with_reducible constructor)
theorem u113_146_at : At Tryz.prog gsT 113 S113A S113B u113_146 := fo (c := u113_146_cx) rfl rfl (Fns_assoc ⟨tab_ok ⟨u35_145_at, trivial⟩, b113, trivial⟩) (n := 400) (lp_ok) (enters Tryz.func113 (by kernel_rfl) rfl) (fun y => ⟨_, rfl⟩) fun x y h => at_eq (Q := fun x y => acall u113_146_cx okT lpT 400 (.fn 113 [] []) (RT.shape S113A x) [] (leafK S113B y)) (Eq.mpr u113_146_t u113_146_r) h
abbrev S98A : RT := (.cons (.agg (.one (.sl (.pr (.int .i64) (.pr (.int .u64) (.pr (.int .i64) (.sl (.int .u32)))))))) (.cons (.int .i64) (.cons (.int .u64) (.one (.agg (.cons (.int .i64) (.one (.sl (.int .u32)))))))))
abbrev S98B : RT := (.tup (.cons (.agg (.one (.sl (.pr (.int .i64) (.pr (.int .u64) (.pr (.int .i64) (.sl (.int .u32)))))))) (.one (.int .i64))))
noncomputable def c98 : Nat × Ent := (98, .body Tryz.f98)
theorem b98 {c : Cx} : EntOk Tryz.prog c 98 (.body Tryz.f98) := body_ent Tryz.func98 (by kernel_rfl) (by kernel_rfl)
noncomputable def u98_147_cx : Cx := ⟨tyT, [(45, tabE S45A S45B u45_11.2 [u45_11]), (69, tabE S69A S69B u69_144.2 [u69_144]), (73, tabE S73A S73B u73_9.2 [u73_9]), c98, (113, tabE S113A S113B u113_146.2 [u113_146])], gsT, eqT, false, [1000000, 34]⟩
def u98_147 : ((List (Int × Int × Int × List Int)) × Int × Int × Int × List Int) × ((List (Int × Int × Int × List Int)) × Int) := (([], (1, (1, (0, [])))), ([(1, (1, (0, [])))], 0))
def u98_147_F (i : Ip) : Prop :=
  (i.an 1 (i.cp 1 fun c1 hc1 => (i.tr (((true && true) && (Nat.beq c1 c1)) && true) (band (band (band rfl rfl) (Nat.beq_refl _)) rfl) (i.cp 1 fun c2 hc2 => (u98_147.2 = u98_147.2)))))
theorem u98_147_t : acall u98_147_cx okT lpT 400 (.fn 98 [] []) (RT.shape S98A u98_147.1) [] (leafK S98B u98_147.2) = u98_147_F ipT := by kernel_rfl
theorem u98_147_r : u98_147_F ipT := by
  unfold u98_147_F
  refine MI.run (A := (u98_147.2 = u98_147.2)) ?_ rfl
  repeat' (first | intro _ | with_reducible constructor)
theorem u98_147_at : At Tryz.prog gsT 98 S98A S98B u98_147 := fo (c := u98_147_cx) rfl rfl (Fns_assoc ⟨tab_ok ⟨u45_11_at, trivial⟩, tab_ok ⟨u69_144_at, trivial⟩, tab_ok ⟨u73_9_at, trivial⟩, b98, tab_ok ⟨u113_146_at, trivial⟩, trivial⟩) (n := 400) (lp_ok) (enters Tryz.func98 (by kernel_rfl) rfl) (fun y => ⟨_, rfl⟩) fun x y h => at_eq (Q := fun x y => acall u98_147_cx okT lpT 400 (.fn 98 [] []) (RT.shape S98A x) [] (leafK S98B y)) (Eq.mpr u98_147_t u98_147_r) h
noncomputable def u84_148_cx : Cx := ⟨tyT, [c84], gsT, eqT, false, [1000000, 34]⟩
def u84_148 : (List ((Int × Bool × (Int × Int × Int × Int × Int) × Int × Int × Int × Int) × Bool × Int × (Int × Int × Int) × List Int)) × (List ((Int × Bool × (Int × Int × Int × Int × Int) × Int × Int × Int × Int) × Bool × Int × (Int × Int × Int) × List Int)) := ([((7, (false, ((1, (16777215, (4294967294, (8190, 127)))), (0, (0, (0, 0)))))), (false, (3600, ((0, (0, 0)), []))))], [((7, (false, ((1, (16777215, (4294967294, (8190, 127)))), (0, (0, (0, 0)))))), (false, (3600, ((0, (0, 0)), []))))])
def u84_148_F (i : Ip) : Prop :=
  (i.cp 1 fun c1 hc1 => (i.tr (true && (true && (Nat.beq c1 c1))) (band rfl (band rfl (Nat.beq_refl _))) (u84_148.2 = u84_148.2)))
theorem u84_148_t : acall u84_148_cx okT lpT 400 (.fn 84 [] []) (RT.shape S84A u84_148.1) [] (leafK S84B u84_148.2) = u84_148_F ipT := by kernel_rfl
theorem u84_148_r : u84_148_F ipT := by
  unfold u84_148_F
  refine MI.run (A := (u84_148.2 = u84_148.2)) ?_ rfl
  repeat' (first | intro _ | with_reducible constructor)
theorem u84_148_at : At Tryz.prog gsT 84 S84A S84B u84_148 := fo (c := u84_148_cx) rfl rfl (Fns_assoc ⟨b84, trivial⟩) (n := 400) (lp_ok) (enters Tryz.func84 (by kernel_rfl) rfl) (fun y => ⟨_, rfl⟩) fun x y h => at_eq (Q := fun x y => acall u84_148_cx okT lpT 400 (.fn 84 [] []) (RT.shape S84A x) [] (leafK S84B y)) (Eq.mpr u84_148_t u84_148_r) h
abbrev S34A : RT := (.one (.sl (.int .i64)))
abbrev S34B : RT := (.nw (.int .i64) 2)
noncomputable def c34 : Nat × Ent := (34, .body Tryz.f34)
theorem b34 {c : Cx} : EntOk Tryz.prog c 34 (.body Tryz.f34) := body_ent Tryz.func34 (by kernel_rfl) (by kernel_rfl)
noncomputable def u34_149_cx : Cx := ⟨tyT, [c34], gsT, eqT, false, [1000000, 34]⟩
def u34_149 : (List Int) × (List Int) := ([], [])
def u34_149_F (i : Ip) : Prop :=
  (i.n2 0 (u34_149.2 = u34_149.2) (i.cp 0 fun c1 hc1 => (i.tr (true && (true && (Nat.beq c1 c1))) (band rfl (band rfl (Nat.beq_refl _))) (u34_149.2 = u34_149.2))))
theorem u34_149_t : acall u34_149_cx okT lpT 400 (.fn 34 [] []) (RT.shape S34A u34_149.1) [] (leafK S34B u34_149.2) = u34_149_F ipT := by kernel_rfl
theorem u34_149_r : u34_149_F ipT := by
  unfold u34_149_F
  refine MI.run (A := (u34_149.2 = u34_149.2)) ?_ rfl
  repeat' (first | intro _ | with_reducible constructor)
theorem u34_149_at : At Tryz.prog gsT 34 S34A S34B u34_149 := fo (c := u34_149_cx) rfl rfl (Fns_assoc ⟨b34, trivial⟩) (n := 400) (lp_ok) (enters Tryz.func34 (by kernel_rfl) rfl) (fun y => ⟨_, rfl⟩) fun x y h => at_eq (Q := fun x y => acall u34_149_cx okT lpT 400 (.fn 34 [] []) (RT.shape S34A x) [] (leafK S34B y)) (Eq.mpr u34_149_t u34_149_r) h
noncomputable def u85_150_cx : Cx := ⟨tyT, [c85], gsT, eqT, false, [1000000, 34]⟩
def u85_150 : (List (Int × Int × Int × List Int)) × (List (Int × Int × Int × List Int)) := ([(1, (1, (0, [])))], [(1, (1, (0, [])))])
def u85_150_F (i : Ip) : Prop :=
  (i.cp 1 fun c1 hc1 => (i.tr (true && (true && (Nat.beq c1 c1))) (band rfl (band rfl (Nat.beq_refl _))) (u85_150.2 = u85_150.2)))
theorem u85_150_t : acall u85_150_cx okT lpT 400 (.fn 85 [] []) (RT.shape S85A u85_150.1) [] (leafK S85B u85_150.2) = u85_150_F ipT := by kernel_rfl
theorem u85_150_r : u85_150_F ipT := by
  unfold u85_150_F
  refine MI.run (A := (u85_150.2 = u85_150.2)) ?_ rfl
  repeat' (first | intro _ | with_reducible constructor)
theorem u85_150_at : At Tryz.prog gsT 85 S85A S85B u85_150 := fo (c := u85_150_cx) rfl rfl (Fns_assoc ⟨b85, trivial⟩) (n := 400) (lp_ok) (enters Tryz.func85 (by kernel_rfl) rfl) (fun y => ⟨_, rfl⟩) fun x y h => at_eq (Q := fun x y => acall u85_150_cx okT lpT 400 (.fn 85 [] []) (RT.shape S85A x) [] (leafK S85B y)) (Eq.mpr u85_150_t u85_150_r) h
noncomputable def u58_151_cx : Cx := ⟨tyT, [(34, tabE S34A S34B u34_149.2 [u34_149]), (35, tabE S35A S35B u35_145.2 [u35_145]), c58, (84, tabE S84A S84B u84_148.2 [u84_148]), (85, tabE S85A S85B u85_150.2 [u85_150])], gsT, eqT, false, [1000000, 34]⟩
def u58_151 : (Int × Int × (List ((Int × Bool × (Int × Int × Int × Int × Int) × Int × Int × Int × Int) × Bool × Int × (Int × Int × Int) × List Int)) × List (Int × Int × Int × List Int)) × (Int × Int × (List ((Int × Bool × (Int × Int × Int × Int × Int) × Int × Int × Int × Int) × Bool × Int × (Int × Int × Int) × List Int)) × List (Int × Int × Int × List Int)) := ((0, (0, ([((7, (false, ((1, (16777215, (4294967294, (8190, 127)))), (0, (0, (0, 0)))))), (false, (3600, ((0, (0, 0)), []))))], [(1, (1, (0, [])))]))), (0, (0, ([((7, (false, ((1, (16777215, (4294967294, (8190, 127)))), (0, (0, (0, 0)))))), (false, (3600, ((0, (0, 0)), []))))], [(1, (1, (0, [])))]))))
def u58_151_F (i : Ip) : Prop :=
  (i.cp 1 fun c1 hc1 => (i.cp 0 fun c2 hc2 => (i.cp 1 fun c3 hc3 => (i.cp 0 fun c4 hc4 => (u58_151.2 = u58_151.2)))))
theorem u58_151_t : acall u58_151_cx okT lpT 400 (.fn 58 [] []) (RT.shape S58A u58_151.1) [] (leafK S58B u58_151.2) = u58_151_F ipT := by kernel_rfl
theorem u58_151_r : u58_151_F ipT := by
  unfold u58_151_F
  refine MI.run (A := (u58_151.2 = u58_151.2)) ?_ rfl
  repeat' (first | intro _ | with_reducible constructor)
theorem u58_151_at : At Tryz.prog gsT 58 S58A S58B u58_151 := fo (c := u58_151_cx) rfl rfl (Fns_assoc ⟨tab_ok ⟨u34_149_at, trivial⟩, tab_ok ⟨u35_145_at, trivial⟩, b58, tab_ok ⟨u84_148_at, trivial⟩, tab_ok ⟨u85_150_at, trivial⟩, trivial⟩) (n := 400) (lp_ok) (enters Tryz.func58 (by kernel_rfl) rfl) (fun y => ⟨_, rfl⟩) fun x y h => at_eq (Q := fun x y => acall u58_151_cx okT lpT 400 (.fn 58 [] []) (RT.shape S58A x) [] (leafK S58B y)) (Eq.mpr u58_151_t u58_151_r) h
abbrev S28A : RT := (.cons (.agg (.cons (.int .i64) (.cons (.int .u64) (.cons (.sl (.pr (.pr (.int .u32) (.pr .bool (.pr (.pr (.int .u64) (.pr (.int .u64) (.pr (.int .u64) (.pr (.int .u64) (.int .u64))))) (.pr (.int .i64) (.pr (.int .i64) (.pr (.int .i64) (.int .i64))))))) (.pr .bool (.pr (.int .i64) (.pr (.pr (.int .u64) (.pr (.int .i64) (.int .i64))) (.sl (.int .i64))))))) (.one (.sl (.pr (.int .i64) (.pr (.int .u64) (.pr (.int .i64) (.sl (.int .u32))))))))))) (.one (.agg (.cons (.int .i64) (.cons (.int .i64) (.cons (.int .i64) (.cons (.int .u64) (.cons (.int .i64) (.cons (.int .u32) (.cons .str (.cons (.int .i64) (.cons (.int .i64) (.cons (.int .i64) (.cons (.int .i64) (.cons (.int .u32) (.cons (.int .u64) (.one .bool)))))))))))))))))
abbrev S28B : RT := (.tup (.cons (.agg (.cons (.int .i64) (.cons (.int .u64) (.cons (.sl (.pr (.pr (.int .u32) (.pr .bool (.pr (.pr (.int .u64) (.pr (.int .u64) (.pr (.int .u64) (.pr (.int .u64) (.int .u64))))) (.pr (.int .i64) (.pr (.int .i64) (.pr (.int .i64) (.int .i64))))))) (.pr .bool (.pr (.int .i64) (.pr (.pr (.int .u64) (.pr (.int .i64) (.int .i64))) (.sl (.int .i64))))))) (.one (.sl (.pr (.int .i64) (.pr (.int .u64) (.pr (.int .i64) (.sl (.int .u32))))))))))) (.cons (.agg (.cons (.sl (.pr (.int .u64) (.pr (.int .u32) (.pr (.int .i64) (.int .i64))))) (.cons .bool (.cons (.int .i64) (.cons (.int .u64) (.cons (.int .i64) (.one (.sl (.int .u32))))))))) (.one (.int .i64)))))
noncomputable def c28 : Nat × Ent := (28, .body Tryz.f28)
theorem b28 {c : Cx} : EntOk Tryz.prog c 28 (.body Tryz.f28) := body_ent Tryz.func28 (by kernel_rfl) (by kernel_rfl)
noncomputable def c60 : Nat × Ent := (60, .body Tryz.f60)
theorem b60 {c : Cx} : EntOk Tryz.prog c 60 (.body Tryz.f60) := body_ent Tryz.func60 (by kernel_rfl) (by kernel_rfl)
noncomputable def c93 : Nat × Ent := (93, .body Tryz.f93)
theorem b93 {c : Cx} : EntOk Tryz.prog c 93 (.body Tryz.f93) := body_ent Tryz.func93 (by kernel_rfl) (by kernel_rfl)
noncomputable def u28_152_cx : Cx := ⟨tyT, [(10, tabE S10A S10B u10_6.2 [u10_6]), (13, tabE S13A S13B u13_16.2 [u13_16]), c28, (45, tabE S45A S45B u45_11.2 [u45_11]), (58, tabE S58A S58B u58_151.2 [u58_151, u58_19]), c60, c93, (98, tabE S98A S98B u98_147.2 [u98_147]), (128, tabE S128A S128B u128_134.2 [u128_134]), (129, tabE S129A S129B u129_140.2 [u129_140])], gsT, eqT, false, [1000000, 34]⟩
def u28_152 : ((Int × Int × (List ((Int × Bool × (Int × Int × Int × Int × Int) × Int × Int × Int × Int) × Bool × Int × (Int × Int × Int) × List Int)) × List (Int × Int × Int × List Int)) × Int × Int × Int × Int × Int × Int × ByteArray × Int × Int × Int × Int × Int × Int × Bool) × ((Int × Int × (List ((Int × Bool × (Int × Int × Int × Int × Int) × Int × Int × Int × Int) × Bool × Int × (Int × Int × Int) × List Int)) × List (Int × Int × Int × List Int)) × ((List (Int × Int × Int × Int)) × Bool × Int × Int × Int × List Int) × Int) := (((0, (0, ([], []))), (2, (0, (1, (1, (1, (7, ((⟨#[64, 104, 111, 117, 114, 108, 121]⟩ : ByteArray), (0, (0, (0, (0, (0, (0, false)))))))))))))), ((0, (0, ([((7, (false, ((1, (16777215, (4294967294, (8190, 127)))), (0, (0, (0, 0)))))), (false, (3600, ((0, (0, 0)), []))))], [(1, (1, (0, [])))]))), (([], (true, (1, (1, (0, []))))), 0)))
def u28_152_F (i : Ip) : Prop :=
  (i.a2 (i.an 1 (u28_152.2 = u28_152.2)) (u28_152.2 = u28_152.2))
theorem u28_152_t : acall u28_152_cx okT lpT 400 (.fn 28 [] []) (RT.shape S28A u28_152.1) [] (leafK S28B u28_152.2) = u28_152_F ipT := by kernel_rfl
theorem u28_152_r : u28_152_F ipT := by
  unfold u28_152_F
  refine MI.run (A := (u28_152.2 = u28_152.2)) ?_ rfl
  repeat' (first | intro _ | with_reducible constructor)
theorem u28_152_at : At Tryz.prog gsT 28 S28A S28B u28_152 := fo (c := u28_152_cx) rfl rfl (Fns_assoc ⟨tab_ok ⟨u10_6_at, trivial⟩, tab_ok ⟨u13_16_at, trivial⟩, b28, tab_ok ⟨u45_11_at, trivial⟩, tab_ok ⟨u58_151_at, u58_19_at, trivial⟩, b60, b93, tab_ok ⟨u98_147_at, trivial⟩, tab_ok ⟨u128_134_at, trivial⟩, tab_ok ⟨u129_140_at, trivial⟩, trivial⟩) (n := 400) (lp_ok) (enters Tryz.func28 (by kernel_rfl) rfl) (fun y => ⟨_, rfl⟩) fun x y h => at_eq (Q := fun x y => acall u28_152_cx okT lpT 400 (.fn 28 [] []) (RT.shape S28A x) [] (leafK S28B y)) (Eq.mpr u28_152_t u28_152_r) h
abbrev S104A : RT := (.one (.agg (.cons (.int .u32) (.cons .bool (.cons (.int .u64) (.cons (.int .u64) (.cons (.int .u64) (.cons (.int .u64) (.cons (.int .u64) (.cons (.int .i64) (.cons (.int .i64) (.cons (.int .i64) (.cons (.int .i64) (.cons .bool (.cons (.int .i64) (.cons (.int .u64) (.cons (.int .i64) (.cons (.int .i64) (.one (.sl (.int .i64)))))))))))))))))))))
abbrev S104B : RT := (.sl (.int .i64))
noncomputable def c104 : Nat × Ent := (104, .body Tryz.f104)
theorem b104 {c : Cx} : EntOk Tryz.prog c 104 (.body Tryz.f104) := body_ent Tryz.func104 (by kernel_rfl) (by kernel_rfl)
noncomputable def u104_153_cx : Cx := ⟨tyT, [c104], gsT, eqT, false, [1000000, 34]⟩
def u104_153 : (Int × Bool × Int × Int × Int × Int × Int × Int × Int × Int × Int × Bool × Int × Int × Int × Int × List Int) × (List Int) := ((7, (false, (1, (16777215, (4294967294, (8190, (127, (0, (0, (0, (0, (false, (3600, (0, (0, (0, [])))))))))))))))), [3600])
def u104_153_F (i : Ip) : Prop :=
  (i.cp 0 fun c1 hc1 => (i.tr (((((true && true) && true) && true) && (Nat.beq c1 c1)) && true) (band (band (band (band (band rfl rfl) rfl) rfl) (Nat.beq_refl _)) rfl) (i.cp 1 fun c2 hc2 => (u104_153.2 = u104_153.2))))
theorem u104_153_t : acall u104_153_cx okT lpT 400 (.fn 104 [] []) (RT.shape S104A u104_153.1) [] (leafK S104B u104_153.2) = u104_153_F ipT := by kernel_rfl
theorem u104_153_r : u104_153_F ipT := by
  unfold u104_153_F
  refine MI.run (A := (u104_153.2 = u104_153.2)) ?_ rfl
  repeat' (first | intro _ | with_reducible constructor)
theorem u104_153_at : At Tryz.prog gsT 104 S104A S104B u104_153 := fo (c := u104_153_cx) rfl rfl (Fns_assoc ⟨b104, trivial⟩) (n := 400) (lp_ok) (enters Tryz.func104 (by kernel_rfl) rfl) (fun y => ⟨_, rfl⟩) fun x y h => at_eq (Q := fun x y => acall u104_153_cx okT lpT 400 (.fn 104 [] []) (RT.shape S104A x) [] (leafK S104B y)) (Eq.mpr u104_153_t u104_153_r) h
abbrev S105A : RT := (.one (.sl (.int .i64)))
abbrev S105B : RT := .bool
noncomputable def c105 : Nat × Ent := (105, .body Tryz.f105)
theorem b105 {c : Cx} : EntOk Tryz.prog c 105 (.body Tryz.f105) := body_ent Tryz.func105 (by kernel_rfl) (by kernel_rfl)
noncomputable def u105_154_cx : Cx := ⟨tyT, [c105], gsT, eqT, false, [1000000, 34]⟩
def u105_154 : (List Int) × (Bool) := ([3600], true)
theorem u105_154_t : acall u105_154_cx okT lpT 400 (.fn 105 [] []) (RT.shape S105A u105_154.1) [] (leafK S105B u105_154.2) = (u105_154.2 = u105_154.2) := by kernel_rfl
theorem u105_154_at : At Tryz.prog gsT 105 S105A S105B u105_154 := fo (c := u105_154_cx) rfl rfl (Fns_assoc ⟨b105, trivial⟩) (n := 400) (lp_ok) (enters Tryz.func105 (by kernel_rfl) rfl) (fun y => ⟨_, rfl⟩) fun x y h => at_eq (Q := fun x y => acall u105_154_cx okT lpT 400 (.fn 105 [] []) (RT.shape S105A x) [] (leafK S105B y)) (Eq.mpr u105_154_t rfl) h
noncomputable def u37_155_cx : Cx := ⟨tyT, [c37], gsT, eqT, false, [1000000, 34]⟩
def u37_155 : (Int) × (Bool) := (3600, true)
theorem u37_155_t : acall u37_155_cx okT lpT 400 (.fn 37 [] []) (RT.shape S37A u37_155.1) [] (leafK S37B u37_155.2) = (u37_155.2 = u37_155.2) := by kernel_rfl
theorem u37_155_at : At Tryz.prog gsT 37 S37A S37B u37_155 := fo (c := u37_155_cx) rfl rfl (Fns_assoc ⟨b37, trivial⟩) (n := 400) (lp_ok) (enters Tryz.func37 (by kernel_rfl) rfl) (fun y => ⟨_, rfl⟩) fun x y h => at_eq (Q := fun x y => acall u37_155_cx okT lpT 400 (.fn 37 [] []) (RT.shape S37A x) [] (leafK S37B y)) (Eq.mpr u37_155_t rfl) h
noncomputable def u219_156_cx : Cx := ⟨tyT, [c219], gsT, eqT, false, [1000000, 34]⟩
def u219_156 : (Int) × (Int) := (3599, 0)
theorem u219_156_t : acall u219_156_cx okT lpT 400 (.fn 219 [] []) (RT.shape S219A u219_156.1) [] (leafK S219B u219_156.2) = (u219_156.2 = u219_156.2) := by kernel_rfl
theorem u219_156_at : At Tryz.prog gsT 219 S219A S219B u219_156 := fo (c := u219_156_cx) rfl rfl (Fns_assoc ⟨b219, trivial⟩) (n := 400) (lp_ok) (enters Tryz.func219 (by kernel_rfl) rfl) (fun y => ⟨_, rfl⟩) fun x y h => at_eq (Q := fun x y => acall u219_156_cx okT lpT 400 (.fn 219 [] []) (RT.shape S219A x) [] (leafK S219B y)) (Eq.mpr u219_156_t rfl) h
noncomputable def u179_157_cx : Cx := ⟨tyT, [(140, tabE S140A S140B u140_80.2 [u140_80]), c179, c218, (219, tabE S219A S219B u219_156.2 [u219_156]), c220, c254, c255, c289, (290, tabE S290A S290B u290_94.2 [u290_94]), (291, tabE S291A S291B u291_99.2 [u291_99]), c292, c293, c314, (315, tabE S315A S315B u315_130.2 [u315_130, u315_126])], gsT, eqT, false, [1000000, 34]⟩
def u179_157 : ((Int × Int × Int × Int × Int) × Int) × (Int × Bool) := (((1, (16777215, (4294967294, (8190, 127)))), 3599), (3600, true))
def u179_157_F (i : Ip) : Prop :=
  (i.an 1 (u179_157.2 = u179_157.2))
theorem u179_157_t : acall u179_157_cx okT lpT 400 (.fn 179 [] []) (RT.shape S179A u179_157.1) [] (leafK S179B u179_157.2) = u179_157_F ipT := by kernel_rfl
theorem u179_157_r : u179_157_F ipT := by
  unfold u179_157_F
  refine MI.run (A := (u179_157.2 = u179_157.2)) ?_ rfl
  repeat' (first | intro _ | with_reducible constructor)
theorem u179_157_at : At Tryz.prog gsT 179 S179A S179B u179_157 := fo (c := u179_157_cx) rfl rfl (Fns_assoc ⟨tab_ok ⟨u140_80_at, trivial⟩, b179, b218, tab_ok ⟨u219_156_at, trivial⟩, b220, b254, b255, b289, tab_ok ⟨u290_94_at, trivial⟩, tab_ok ⟨u291_99_at, trivial⟩, b292, b293, b314, tab_ok ⟨u315_130_at, u315_126_at, trivial⟩, trivial⟩) (n := 400) (lp_ok) (enters Tryz.func179 (by kernel_rfl) rfl) (fun y => ⟨_, rfl⟩) fun x y h => at_eq (Q := fun x y => acall u179_157_cx okT lpT 400 (.fn 179 [] []) (RT.shape S179A x) [] (leafK S179B y)) (Eq.mpr u179_157_t u179_157_r) h
noncomputable def u142_158_cx : Cx := ⟨tyT, [(103, tabE S103A S103B u103_133.2 [u103_133]), c142, (179, tabE S179A S179B u179_157.2 [u179_157]), c180, c222, c259], gsT, eqT, false, [1000000, 34]⟩
def u142_158 : ((Int × Bool × Int × Int × Int × Int × Int × Int × Int × Int × Int) × Int) × (Int × Bool) := (((7, (false, (1, (16777215, (4294967294, (8190, (127, (0, (0, (0, 0)))))))))), 3599), (3600, true))
theorem u142_158_t : acall u142_158_cx okT lpT 400 (.fn 142 [] []) (RT.shape S142A u142_158.1) [] (leafK S142B u142_158.2) = (u142_158.2 = u142_158.2) := by kernel_rfl
theorem u142_158_at : At Tryz.prog gsT 142 S142A S142B u142_158 := fo (c := u142_158_cx) rfl rfl (Fns_assoc ⟨tab_ok ⟨u103_133_at, trivial⟩, b142, tab_ok ⟨u179_157_at, trivial⟩, b180, b222, b259, trivial⟩) (n := 400) (lp_ok) (enters Tryz.func142 (by kernel_rfl) rfl) (fun y => ⟨_, rfl⟩) fun x y h => at_eq (Q := fun x y => acall u142_158_cx okT lpT 400 (.fn 142 [] []) (RT.shape S142A x) [] (leafK S142B y)) (Eq.mpr u142_158_t rfl) h
abbrev S106A : RT := (.cons (.agg (.cons (.int .u32) (.cons .bool (.cons (.int .u64) (.cons (.int .u64) (.cons (.int .u64) (.cons (.int .u64) (.cons (.int .u64) (.cons (.int .i64) (.cons (.int .i64) (.cons (.int .i64) (.one (.int .i64))))))))))))) (.one (.int .i64)))
abbrev S106B : RT := .bool
noncomputable def c106 : Nat × Ent := (106, .body Tryz.f106)
theorem b106 {c : Cx} : EntOk Tryz.prog c 106 (.body Tryz.f106) := body_ent Tryz.func106 (by kernel_rfl) (by kernel_rfl)
noncomputable def u106_159_cx : Cx := ⟨tyT, [c106, (142, tabE S142A S142B u142_158.2 [u142_158])], gsT, eqT, false, [1000000, 34]⟩
def u106_159 : ((Int × Bool × Int × Int × Int × Int × Int × Int × Int × Int × Int) × Int) × (Bool) := (((7, (false, (1, (16777215, (4294967294, (8190, (127, (0, (0, (0, 0)))))))))), 3600), true)
theorem u106_159_t : acall u106_159_cx okT lpT 400 (.fn 106 [] []) (RT.shape S106A u106_159.1) [] (leafK S106B u106_159.2) = (u106_159.2 = u106_159.2) := by kernel_rfl
theorem u106_159_at : At Tryz.prog gsT 106 S106A S106B u106_159 := fo (c := u106_159_cx) rfl rfl (Fns_assoc ⟨b106, tab_ok ⟨u142_158_at, trivial⟩, trivial⟩) (n := 400) (lp_ok) (enters Tryz.func106 (by kernel_rfl) rfl) (fun y => ⟨_, rfl⟩) fun x y h => at_eq (Q := fun x y => acall u106_159_cx okT lpT 400 (.fn 106 [] []) (RT.shape S106A x) [] (leafK S106B y)) (Eq.mpr u106_159_t rfl) h
abbrev S64A : RT := (.one (.agg (.cons (.int .u32) (.cons .bool (.cons (.int .u64) (.cons (.int .u64) (.cons (.int .u64) (.cons (.int .u64) (.cons (.int .u64) (.cons (.int .i64) (.cons (.int .i64) (.cons (.int .i64) (.cons (.int .i64) (.cons .bool (.cons (.int .i64) (.cons (.int .u64) (.cons (.int .i64) (.cons (.int .i64) (.one (.sl (.int .i64)))))))))))))))))))))
abbrev S64B : RT := (.int .i64)
noncomputable def c64 : Nat × Ent := (64, .body Tryz.f64)
theorem b64 {c : Cx} : EntOk Tryz.prog c 64 (.body Tryz.f64) := body_ent Tryz.func64 (by kernel_rfl) (by kernel_rfl)
noncomputable def u64_160_cx : Cx := ⟨tyT, [(37, tabE S37A S37B u37_155.2 [u37_155]), c64, (103, tabE S103A S103B u103_133.2 [u103_133]), (104, tabE S104A S104B u104_153.2 [u104_153]), (105, tabE S105A S105B u105_154.2 [u105_154]), (106, tabE S106A S106B u106_159.2 [u106_159])], gsT, eqT, false, [1000000, 34]⟩
def u64_160 : (Int × Bool × Int × Int × Int × Int × Int × Int × Int × Int × Int × Bool × Int × Int × Int × Int × List Int) × (Int) := ((7, (false, (1, (16777215, (4294967294, (8190, (127, (0, (0, (0, (0, (false, (3600, (0, (0, (0, [])))))))))))))))), 0)
theorem u64_160_t : acall u64_160_cx okT lpT 400 (.fn 64 [] []) (RT.shape S64A u64_160.1) [] (leafK S64B u64_160.2) = (u64_160.2 = u64_160.2) := by kernel_rfl
theorem u64_160_at : At Tryz.prog gsT 64 S64A S64B u64_160 := fo (c := u64_160_cx) rfl rfl (Fns_assoc ⟨tab_ok ⟨u37_155_at, trivial⟩, b64, tab_ok ⟨u103_133_at, trivial⟩, tab_ok ⟨u104_153_at, trivial⟩, tab_ok ⟨u105_154_at, trivial⟩, tab_ok ⟨u106_159_at, trivial⟩, trivial⟩) (n := 400) (lp_ok) (enters Tryz.func64 (by kernel_rfl) rfl) (fun y => ⟨_, rfl⟩) fun x y h => at_eq (Q := fun x y => acall u64_160_cx okT lpT 400 (.fn 64 [] []) (RT.shape S64A x) [] (leafK S64B y)) (Eq.mpr u64_160_t rfl) h
noncomputable def c65 : Nat × Ent := (65, .body Tryz.f65)
theorem b65 {c : Cx} : EntOk Tryz.prog c 65 (.body Tryz.f65) := body_ent Tryz.func65 (by kernel_rfl) (by kernel_rfl)
noncomputable def c107 : Nat × Ent := (107, .body Tryz.f107)
theorem b107 {c : Cx} : EntOk Tryz.prog c 107 (.body Tryz.f107) := body_ent Tryz.func107 (by kernel_rfl) (by kernel_rfl)
noncomputable def u38_161_cx : Cx := ⟨tyT, [c38, (64, tabE S64A S64B u64_160.2 [u64_160]), c65, c107], gsT, eqT, false, [1000000, 34]⟩
def u38_161 : (List ((Int × Bool × (Int × Int × Int × Int × Int) × Int × Int × Int × Int) × Bool × Int × (Int × Int × Int) × List Int)) × (Int) := ([((7, (false, ((1, (16777215, (4294967294, (8190, 127)))), (0, (0, (0, 0)))))), (false, (3600, ((0, (0, 0)), []))))], 0)
theorem u38_161_t : acall u38_161_cx okT lpT 400 (.fn 38 [] []) (RT.shape S38A u38_161.1) [] (leafK S38B u38_161.2) = (u38_161.2 = u38_161.2) := by kernel_rfl
theorem u38_161_at : At Tryz.prog gsT 38 S38A S38B u38_161 := fo (c := u38_161_cx) rfl rfl (Fns_assoc ⟨b38, tab_ok ⟨u64_160_at, trivial⟩, b65, b107, trivial⟩) (n := 400) (lp_ok) (enters Tryz.func38 (by kernel_rfl) rfl) (fun y => ⟨_, rfl⟩) fun x y h => at_eq (Q := fun x y => acall u38_161_cx okT lpT 400 (.fn 38 [] []) (RT.shape S38A x) [] (leafK S38B y)) (Eq.mpr u38_161_t rfl) h
noncomputable def u66_162_cx : Cx := ⟨tyT, [(62, tabE S62A S62B u62_4.2 [u62_4]), c66], gsT, eqT, false, [1000000, 34]⟩
def u66_162 : (List Bool) × (Bool) := ([true, true, true, true], true)
theorem u66_162_t : acall u66_162_cx okT lpT 400 (.fn 66 [] []) (RT.shape S66A u66_162.1) [] (leafK S66B u66_162.2) = (u66_162.2 = u66_162.2) := by kernel_rfl
theorem u66_162_at : At Tryz.prog gsT 66 S66A S66B u66_162 := fo (c := u66_162_cx) rfl rfl (Fns_assoc ⟨tab_ok ⟨u62_4_at, trivial⟩, b66, trivial⟩) (n := 400) (lp_ok) (enters Tryz.func66 (by kernel_rfl) rfl) (fun y => ⟨_, rfl⟩) fun x y h => at_eq (Q := fun x y => acall u66_162_cx okT lpT 400 (.fn 66 [] []) (RT.shape S66A x) [] (leafK S66B y)) (Eq.mpr u66_162_t rfl) h
noncomputable def u39_163_cx : Cx := ⟨tyT, [c39, (66, tabE S66A S66B u66_162.2 [u66_162]), (67, tabE S67A S67B u67_7.2 [u67_7]), (68, tabE S68A S68B u68_8.2 [u68_8]), (69, tabE S69A S69B u69_144.2 [u69_144])], gsT, eqT, false, [1000000, 34]⟩
def u39_163 : (List (Int × Int × Int × List Int)) × (Int) := ([(1, (1, (0, [])))], 0)
theorem u39_163_t : acall u39_163_cx okT lpT 400 (.fn 39 [] []) (RT.shape S39A u39_163.1) [] (leafK S39B u39_163.2) = (u39_163.2 = u39_163.2) := by kernel_rfl
theorem u39_163_at : At Tryz.prog gsT 39 S39A S39B u39_163 := fo (c := u39_163_cx) rfl rfl (Fns_assoc ⟨b39, tab_ok ⟨u66_162_at, trivial⟩, tab_ok ⟨u67_7_at, trivial⟩, tab_ok ⟨u68_8_at, trivial⟩, tab_ok ⟨u69_144_at, trivial⟩, trivial⟩) (n := 400) (lp_ok) (enters Tryz.func39 (by kernel_rfl) rfl) (fun y => ⟨_, rfl⟩) fun x y h => at_eq (Q := fun x y => acall u39_163_cx okT lpT 400 (.fn 39 [] []) (RT.shape S39A x) [] (leafK S39B y)) (Eq.mpr u39_163_t rfl) h
noncomputable def c40 : Nat × Ent := (40, .body Tryz.f40)
theorem b40 {c : Cx} : EntOk Tryz.prog c 40 (.body Tryz.f40) := body_ent Tryz.func40 (by kernel_rfl) (by kernel_rfl)
noncomputable def c41 : Nat × Ent := (41, .body Tryz.f41)
theorem b41 {c : Cx} : EntOk Tryz.prog c 41 (.body Tryz.f41) := body_ent Tryz.func41 (by kernel_rfl) (by kernel_rfl)
noncomputable def c70 : Nat × Ent := (70, .body Tryz.f70)
theorem b70 {c : Cx} : EntOk Tryz.prog c 70 (.body Tryz.f70) := body_ent Tryz.func70 (by kernel_rfl) (by kernel_rfl)
noncomputable def u10_164_cx : Cx := ⟨tyT, [c10, (36, tabE S36A S36B u36_5.2 [u36_5]), (37, tabE S37A S37B u37_0.2 [u37_0]), (38, tabE S38A S38B u38_161.2 [u38_161]), (39, tabE S39A S39B u39_163.2 [u39_163]), c40, c41, c70], gsT, eqT, false, [1000000, 34]⟩
def u10_164 : (Int × Int × (List ((Int × Bool × (Int × Int × Int × Int × Int) × Int × Int × Int × Int) × Bool × Int × (Int × Int × Int) × List Int)) × List (Int × Int × Int × List Int)) × (Int) := ((0, (0, ([((7, (false, ((1, (16777215, (4294967294, (8190, 127)))), (0, (0, (0, 0)))))), (false, (3600, ((0, (0, 0)), []))))], [(1, (1, (0, [])))]))), 0)
def u10_164_F (i : Ip) : Prop :=
  (i.a2 (i.a2 (i.a2 (i.an 1 (u10_164.2 = u10_164.2)) (i.a2 (i.an 1 (u10_164.2 = u10_164.2)) (i.a2 (u10_164.2 = u10_164.2) (i.an 1 (u10_164.2 = u10_164.2))))) (i.a2 (i.a2 (i.an 1 (u10_164.2 = u10_164.2)) (i.a2 (i.an 1 (u10_164.2 = u10_164.2)) (i.a2 (u10_164.2 = u10_164.2) (i.an 1 (u10_164.2 = u10_164.2))))) (i.a2 (i.a2 (i.an 1 (u10_164.2 = u10_164.2)) (i.a2 (i.an 1 (u10_164.2 = u10_164.2)) (u10_164.2 = u10_164.2))) (i.a2 (i.a2 (u10_164.2 = u10_164.2) (i.an 1 (u10_164.2 = u10_164.2))) (i.a2 (i.a2 (u10_164.2 = u10_164.2) (i.an 1 (u10_164.2 = u10_164.2))) (i.a2 (i.an 1 (u10_164.2 = u10_164.2)) (i.a2 (i.an 1 (u10_164.2 = u10_164.2)) (u10_164.2 = u10_164.2)))))))) (i.a2 (i.a2 (i.a2 (i.an 1 (u10_164.2 = u10_164.2)) (i.a2 (i.an 1 (u10_164.2 = u10_164.2)) (i.a2 (u10_164.2 = u10_164.2) (i.an 1 (u10_164.2 = u10_164.2))))) (i.a2 (i.a2 (i.an 1 (u10_164.2 = u10_164.2)) (i.a2 (i.a2 (i.an 1 (u10_164.2 = u10_164.2)) (u10_164.2 = u10_164.2)) (i.an 1 (u10_164.2 = u10_164.2)))) (i.a2 (i.a2 (i.a2 (i.an 1 (u10_164.2 = u10_164.2)) (i.a2 (i.an 1 (u10_164.2 = u10_164.2)) (i.a2 (u10_164.2 = u10_164.2) (i.an 1 (u10_164.2 = u10_164.2))))) (i.a2 (i.a2 (i.an 1 (u10_164.2 = u10_164.2)) (u10_164.2 = u10_164.2)) (i.a2 (i.a2 (u10_164.2 = u10_164.2) (i.an 1 (u10_164.2 = u10_164.2))) (u10_164.2 = u10_164.2)))) (i.a2 (i.a2 (u10_164.2 = u10_164.2) (i.an 1 (u10_164.2 = u10_164.2))) (i.a2 (i.an 1 (u10_164.2 = u10_164.2)) (i.a2 (i.a2 (u10_164.2 = u10_164.2) (i.an 1 (u10_164.2 = u10_164.2))) (u10_164.2 = u10_164.2))))))) (i.a2 (i.a2 (i.a2 (i.an 1 (u10_164.2 = u10_164.2)) (i.a2 (i.an 1 (u10_164.2 = u10_164.2)) (i.a2 (u10_164.2 = u10_164.2) (i.an 1 (u10_164.2 = u10_164.2))))) (i.a2 (i.a2 (i.an 1 (u10_164.2 = u10_164.2)) (i.a2 (i.a2 (i.an 1 (u10_164.2 = u10_164.2)) (u10_164.2 = u10_164.2)) (i.an 1 (u10_164.2 = u10_164.2)))) (i.a2 (i.a2 (i.a2 (i.an 1 (u10_164.2 = u10_164.2)) (i.a2 (i.an 1 (u10_164.2 = u10_164.2)) (i.a2 (u10_164.2 = u10_164.2) (i.an 1 (u10_164.2 = u10_164.2))))) (i.a2 (i.a2 (i.an 1 (u10_164.2 = u10_164.2)) (u10_164.2 = u10_164.2)) (i.a2 (i.a2 (u10_164.2 = u10_164.2) (i.an 1 (u10_164.2 = u10_164.2))) (u10_164.2 = u10_164.2)))) (i.a2 (i.a2 (u10_164.2 = u10_164.2) (i.an 1 (u10_164.2 = u10_164.2))) (i.a2 (i.an 1 (u10_164.2 = u10_164.2)) (i.a2 (i.a2 (u10_164.2 = u10_164.2) (i.an 1 (u10_164.2 = u10_164.2))) (u10_164.2 = u10_164.2))))))) (i.a2 (i.a2 (i.a2 (i.a2 (i.an 1 (u10_164.2 = u10_164.2)) (i.a2 (i.an 1 (u10_164.2 = u10_164.2)) (i.a2 (u10_164.2 = u10_164.2) (i.an 1 (u10_164.2 = u10_164.2))))) (i.a2 (i.a2 (i.an 1 (u10_164.2 = u10_164.2)) (i.a2 (i.an 1 (u10_164.2 = u10_164.2)) (i.a2 (u10_164.2 = u10_164.2) (i.an 1 (u10_164.2 = u10_164.2))))) (i.a2 (i.a2 (i.an 1 (u10_164.2 = u10_164.2)) (i.a2 (i.an 1 (u10_164.2 = u10_164.2)) (u10_164.2 = u10_164.2))) (i.a2 (i.a2 (u10_164.2 = u10_164.2) (i.an 1 (u10_164.2 = u10_164.2))) (i.a2 (i.a2 (u10_164.2 = u10_164.2) (i.an 1 (u10_164.2 = u10_164.2))) (i.a2 (i.an 1 (u10_164.2 = u10_164.2)) (i.a2 (i.an 1 (u10_164.2 = u10_164.2)) (u10_164.2 = u10_164.2)))))))) (i.a2 (i.a2 (i.a2 (i.an 1 (u10_164.2 = u10_164.2)) (i.a2 (i.an 1 (u10_164.2 = u10_164.2)) (i.a2 (u10_164.2 = u10_164.2) (i.an 1 (u10_164.2 = u10_164.2))))) (i.a2 (i.a2 (i.an 1 (u10_164.2 = u10_164.2)) (u10_164.2 = u10_164.2)) (i.a2 (i.a2 (u10_164.2 = u10_164.2) (i.an 1 (u10_164.2 = u10_164.2))) (u10_164.2 = u10_164.2)))) (i.a2 (i.a2 (i.a2 (i.an 1 (u10_164.2 = u10_164.2)) (i.a2 (i.an 1 (u10_164.2 = u10_164.2)) (i.a2 (u10_164.2 = u10_164.2) (i.an 1 (u10_164.2 = u10_164.2))))) (i.a2 (i.a2 (i.an 1 (u10_164.2 = u10_164.2)) (u10_164.2 = u10_164.2)) (i.a2 (i.a2 (u10_164.2 = u10_164.2) (i.an 1 (u10_164.2 = u10_164.2))) (u10_164.2 = u10_164.2)))) (i.a2 (i.a2 (i.a2 (u10_164.2 = u10_164.2) (i.an 1 (u10_164.2 = u10_164.2))) (i.a2 (i.a2 (u10_164.2 = u10_164.2) (i.an 1 (u10_164.2 = u10_164.2))) (i.a2 (i.an 1 (u10_164.2 = u10_164.2)) (i.a2 (i.an 1 (u10_164.2 = u10_164.2)) (u10_164.2 = u10_164.2))))) (i.a2 (i.a2 (i.a2 (u10_164.2 = u10_164.2) (i.an 1 (u10_164.2 = u10_164.2))) (u10_164.2 = u10_164.2)) (i.a2 (i.a2 (u10_164.2 = u10_164.2) (i.an 1 (u10_164.2 = u10_164.2))) (u10_164.2 = u10_164.2))))))) (i.a2 (i.a2 (i.a2 (u10_164.2 = u10_164.2) (i.an 1 (u10_164.2 = u10_164.2))) (i.a2 (i.a2 (u10_164.2 = u10_164.2) (i.an 1 (u10_164.2 = u10_164.2))) (i.a2 (i.an 1 (u10_164.2 = u10_164.2)) (i.a2 (i.an 1 (u10_164.2 = u10_164.2)) (u10_164.2 = u10_164.2))))) (i.a2 (i.a2 (i.a2 (u10_164.2 = u10_164.2) (i.an 1 (u10_164.2 = u10_164.2))) (i.a2 (i.an 1 (u10_164.2 = u10_164.2)) (i.a2 (i.a2 (u10_164.2 = u10_164.2) (i.an 1 (u10_164.2 = u10_164.2))) (u10_164.2 = u10_164.2)))) (i.a2 (i.a2 (i.a2 (u10_164.2 = u10_164.2) (i.an 1 (u10_164.2 = u10_164.2))) (i.a2 (i.an 1 (u10_164.2 = u10_164.2)) (i.a2 (i.a2 (u10_164.2 = u10_164.2) (i.an 1 (u10_164.2 = u10_164.2))) (u10_164.2 = u10_164.2)))) (i.a2 (i.a2 (i.a2 (u10_164.2 = u10_164.2) (i.an 1 (u10_164.2 = u10_164.2))) (i.a2 (i.a2 (u10_164.2 = u10_164.2) (i.an 1 (u10_164.2 = u10_164.2))) (i.a2 (i.an 1 (u10_164.2 = u10_164.2)) (i.a2 (i.an 1 (u10_164.2 = u10_164.2)) (u10_164.2 = u10_164.2))))) (i.a2 (i.a2 (i.a2 (u10_164.2 = u10_164.2) (i.an 1 (u10_164.2 = u10_164.2))) (u10_164.2 = u10_164.2)) (i.a2 (i.a2 (u10_164.2 = u10_164.2) (i.an 1 (u10_164.2 = u10_164.2))) (u10_164.2 = u10_164.2)))))))))))
theorem u10_164_t : acall u10_164_cx okT lpT 400 (.fn 10 [] []) (RT.shape S10A u10_164.1) [] (leafK S10B u10_164.2) = u10_164_F ipT := by kernel_rfl
theorem u10_164_r : u10_164_F ipT := by
  unfold u10_164_F
  refine MI.run (A := (u10_164.2 = u10_164.2)) ?_ rfl
  repeat' (first | intro _ | with_reducible constructor)
theorem u10_164_at : At Tryz.prog gsT 10 S10A S10B u10_164 := fo (c := u10_164_cx) rfl rfl (Fns_assoc ⟨b10, tab_ok ⟨u36_5_at, trivial⟩, tab_ok ⟨u37_0_at, trivial⟩, tab_ok ⟨u38_161_at, trivial⟩, tab_ok ⟨u39_163_at, trivial⟩, b40, b41, b70, trivial⟩) (n := 400) (lp_ok) (enters Tryz.func10 (by kernel_rfl) rfl) (fun y => ⟨_, rfl⟩) fun x y h => at_eq (Q := fun x y => acall u10_164_cx okT lpT 400 (.fn 10 [] []) (RT.shape S10A x) [] (leafK S10B y)) (Eq.mpr u10_164_t u10_164_r) h
noncomputable def u13_165_cx : Cx := ⟨tyT, [c13], gsT, eqT, false, [1000000, 34]⟩
def u13_165 : (Int × Int × Int × Int × Int × Int × ByteArray × Int × Int × Int × Int × Int × Int × Bool) × (Int) := ((1, (3600, (0, (0, (0, (0, ((⟨#[]⟩ : ByteArray), (0, (0, (0, (0, (0, (0, false))))))))))))), 0)
theorem u13_165_t : acall u13_165_cx okT lpT 400 (.fn 13 [] []) (RT.shape S13A u13_165.1) [] (leafK S13B u13_165.2) = (u13_165.2 = u13_165.2) := by kernel_rfl
theorem u13_165_at : At Tryz.prog gsT 13 S13A S13B u13_165 := fo (c := u13_165_cx) rfl rfl (Fns_assoc ⟨b13, trivial⟩) (n := 400) (lp_ok) (enters Tryz.func13 (by kernel_rfl) rfl) (fun y => ⟨_, rfl⟩) fun x y h => at_eq (Q := fun x y => acall u13_165_cx okT lpT 400 (.fn 13 [] []) (RT.shape S13A x) [] (leafK S13B y)) (Eq.mpr u13_165_t rfl) h
abbrev S86A : RT := (.cons (.int .i64) (.one (.int .i64)))
abbrev S86B : RT := (.int .i64)
noncomputable def c86 : Nat × Ent := (86, .body Tryz.f86)
theorem b86 {c : Cx} : EntOk Tryz.prog c 86 (.body Tryz.f86) := body_ent Tryz.func86 (by kernel_rfl) (by kernel_rfl)
noncomputable def u86_166_cx : Cx := ⟨tyT, [(37, tabE S37A S37B u37_155.2 [u37_155]), c86], gsT, eqT, false, [1000000, 34]⟩
def u86_166 : (Int × Int) × (Int) := ((0, 3600), 3600)
theorem u86_166_t : acall u86_166_cx okT lpT 400 (.fn 86 [] []) (RT.shape S86A u86_166.1) [] (leafK S86B u86_166.2) = (u86_166.2 = u86_166.2) := by kernel_rfl
theorem u86_166_at : At Tryz.prog gsT 86 S86A S86B u86_166 := fo (c := u86_166_cx) rfl rfl (Fns_assoc ⟨tab_ok ⟨u37_155_at, trivial⟩, b86, trivial⟩) (n := 400) (lp_ok) (enters Tryz.func86 (by kernel_rfl) rfl) (fun y => ⟨_, rfl⟩) fun x y h => at_eq (Q := fun x y => acall u86_166_cx okT lpT 400 (.fn 86 [] []) (RT.shape S86A x) [] (leafK S86B y)) (Eq.mpr u86_166_t rfl) h
abbrev S238A : RT := (.one (.int .u64))
abbrev S238B : RT := (.int .i64)
noncomputable def c238 : Nat × Ent := (238, .body Tryz.f238)
theorem b238 {c : Cx} : EntOk Tryz.prog c 238 (.body Tryz.f238) := body_ent Tryz.func238 (by kernel_rfl) (by kernel_rfl)
noncomputable def u238_167_cx : Cx := ⟨tyT, [c238], gsT, eqT, false, [1000000, 34]⟩
def u238_167 : (Int) × (Int) := (1, 1)
theorem u238_167_t : acall u238_167_cx okT lpT 400 (.fn 238 [] []) (RT.shape S238A u238_167.1) [] (leafK S238B u238_167.2) = (u238_167.2 = u238_167.2) := by kernel_rfl
theorem u238_167_at : At Tryz.prog gsT 238 S238A S238B u238_167 := fo (c := u238_167_cx) rfl rfl (Fns_assoc ⟨b238, trivial⟩) (n := 400) (lp_ok) (enters Tryz.func238 (by kernel_rfl) rfl) (fun y => ⟨_, rfl⟩) fun x y h => at_eq (Q := fun x y => acall u238_167_cx okT lpT 400 (.fn 238 [] []) (RT.shape S238A x) [] (leafK S238B y)) (Eq.mpr u238_167_t rfl) h
abbrev S190A : RT := (.one (.int .u64))
abbrev S190B : RT := (.int .i64)
noncomputable def c190 : Nat × Ent := (190, .body Tryz.f190)
theorem b190 {c : Cx} : EntOk Tryz.prog c 190 (.body Tryz.f190) := body_ent Tryz.func190 (by kernel_rfl) (by kernel_rfl)
noncomputable def u190_168_cx : Cx := ⟨tyT, [c190, (238, tabE S238A S238B u238_167.2 [u238_167])], gsT, eqT, false, [1000000, 34]⟩
def u190_168 : (Int) × (Int) := (1, 1)
theorem u190_168_t : acall u190_168_cx okT lpT 400 (.fn 190 [] []) (RT.shape S190A u190_168.1) [] (leafK S190B u190_168.2) = (u190_168.2 = u190_168.2) := by kernel_rfl
theorem u190_168_at : At Tryz.prog gsT 190 S190A S190B u190_168 := fo (c := u190_168_cx) rfl rfl (Fns_assoc ⟨b190, tab_ok ⟨u238_167_at, trivial⟩, trivial⟩) (n := 400) (lp_ok) (enters Tryz.func190 (by kernel_rfl) rfl) (fun y => ⟨_, rfl⟩) fun x y h => at_eq (Q := fun x y => acall u190_168_cx okT lpT 400 (.fn 190 [] []) (RT.shape S190A x) [] (leafK S190B y)) (Eq.mpr u190_168_t rfl) h
abbrev S119A : RT := (.one (.sl (.pr (.pr (.int .u32) (.pr .bool (.pr (.pr (.int .u64) (.pr (.int .u64) (.pr (.int .u64) (.pr (.int .u64) (.int .u64))))) (.pr (.int .i64) (.pr (.int .i64) (.pr (.int .i64) (.int .i64))))))) (.pr .bool (.pr (.int .i64) (.pr (.pr (.int .u64) (.pr (.int .i64) (.int .i64))) (.sl (.int .i64))))))))
abbrev S119B : RT := (.sl (.pr (.int .i64) (.int .u64)))
noncomputable def c119 : Nat × Ent := (119, .body Tryz.f119)
theorem b119 {c : Cx} : EntOk Tryz.prog c 119 (.body Tryz.f119) := body_ent Tryz.func119 (by kernel_rfl) (by kernel_rfl)
noncomputable def c149 : Nat × Ent := (149, .body Tryz.f149)
theorem b149 {c : Cx} : EntOk Tryz.prog c 149 (.body Tryz.f149) := body_ent Tryz.func149 (by kernel_rfl) (by kernel_rfl)
noncomputable def c189 : Nat × Ent := (189, .body Tryz.f189)
theorem b189 {c : Cx} : EntOk Tryz.prog c 189 (.body Tryz.f189) := body_ent Tryz.func189 (by kernel_rfl) (by kernel_rfl)
noncomputable def c229 : Nat × Ent := (229, .body Tryz.f229)
theorem b229 {c : Cx} : EntOk Tryz.prog c 229 (.body Tryz.f229) := body_ent Tryz.func229 (by kernel_rfl) (by kernel_rfl)
noncomputable def u119_169_cx : Cx := ⟨tyT, [(38, tabE S38A S38B u38_161.2 [u38_161]), c119, c149, c189, (190, tabE S190A S190B u190_168.2 [u190_168]), c229], gsT, eqT, false, [1000000, 34]⟩
def u119_169 : (List ((Int × Bool × (Int × Int × Int × Int × Int) × Int × Int × Int × Int) × Bool × Int × (Int × Int × Int) × List Int)) × (List (Int × Int)) := ([((7, (false, ((1, (16777215, (4294967294, (8190, 127)))), (0, (0, (0, 0)))))), (false, (3600, ((0, (0, 0)), []))))], [(3600, 7)])
def u119_169_F (i : Ip) : Prop :=
  (i.cp 1 fun c1 hc1 => (u119_169.2 = u119_169.2))
theorem u119_169_t : acall u119_169_cx okT lpT 400 (.fn 119 [] []) (RT.shape S119A u119_169.1) [] (leafK S119B u119_169.2) = u119_169_F ipT := by kernel_rfl
theorem u119_169_r : u119_169_F ipT := by
  unfold u119_169_F
  refine MI.run (A := (u119_169.2 = u119_169.2)) ?_ rfl
  repeat' (first | intro _ | with_reducible constructor)
theorem u119_169_at : At Tryz.prog gsT 119 S119A S119B u119_169 := fo (c := u119_169_cx) rfl rfl (Fns_assoc ⟨tab_ok ⟨u38_161_at, trivial⟩, b119, b149, b189, tab_ok ⟨u190_168_at, trivial⟩, b229, trivial⟩) (n := 400) (lp_ok) (enters Tryz.func119 (by kernel_rfl) rfl) (fun y => ⟨_, rfl⟩) fun x y h => at_eq (Q := fun x y => acall u119_169_cx okT lpT 400 (.fn 119 [] []) (RT.shape S119A x) [] (leafK S119B y)) (Eq.mpr u119_169_t u119_169_r) h
noncomputable def u238_170_cx : Cx := ⟨tyT, [c238], gsT, eqT, false, [1000000, 34]⟩
def u238_170 : (Int) × (Int) := (3600, 12)
theorem u238_170_t : acall u238_170_cx okT lpT 400 (.fn 238 [] []) (RT.shape S238A u238_170.1) [] (leafK S238B u238_170.2) = (u238_170.2 = u238_170.2) := by kernel_rfl
theorem u238_170_at : At Tryz.prog gsT 238 S238A S238B u238_170 := fo (c := u238_170_cx) rfl rfl (Fns_assoc ⟨b238, trivial⟩) (n := 400) (lp_ok) (enters Tryz.func238 (by kernel_rfl) rfl) (fun y => ⟨_, rfl⟩) fun x y h => at_eq (Q := fun x y => acall u238_170_cx okT lpT 400 (.fn 238 [] []) (RT.shape S238A x) [] (leafK S238B y)) (Eq.mpr u238_170_t rfl) h
abbrev S242A : RT := (.cons (.int .u64) (.one (.int .i64)))
abbrev S242B : RT := (.tup (.cons (.int .i64) (.one .bool)))
noncomputable def c242 : Nat × Ent := (242, .body Tryz.f242)
theorem b242 {c : Cx} : EntOk Tryz.prog c 242 (.body Tryz.f242) := body_ent Tryz.func242 (by kernel_rfl) (by kernel_rfl)
noncomputable def u242_171_cx : Cx := ⟨tyT, [c242, c273, c298], gsT, eqT, false, [1000000, 34]⟩
def u242_171 : (Int × Int) × (Int × Bool) := ((0, 0), (0, false))
theorem u242_171_t : acall u242_171_cx okT lpT 400 (.fn 242 [] []) (RT.shape S242A u242_171.1) [] (leafK S242B u242_171.2) = (u242_171.2 = u242_171.2) := by kernel_rfl
theorem u242_171_at : At Tryz.prog gsT 242 S242A S242B u242_171 := fo (c := u242_171_cx) rfl rfl (Fns_assoc ⟨b242, b273, b298, trivial⟩) (n := 400) (lp_ok) (enters Tryz.func242 (by kernel_rfl) rfl) (fun y => ⟨_, rfl⟩) fun x y h => at_eq (Q := fun x y => acall u242_171_cx okT lpT 400 (.fn 242 [] []) (RT.shape S242A x) [] (leafK S242B y)) (Eq.mpr u242_171_t rfl) h
noncomputable def u299_172_cx : Cx := ⟨tyT, [c299], gsT, eqT, false, [1000000, 34]⟩
def u299_172 : (Int) × (Int) := (72057594037927936, 56)
theorem u299_172_t : acall u299_172_cx okT lpT 400 (.fn 299 [] []) (RT.shape S299A u299_172.1) [] (leafK S299B u299_172.2) = (u299_172.2 = u299_172.2) := by kernel_rfl
theorem u299_172_at : At Tryz.prog gsT 299 S299A S299B u299_172 := fo (c := u299_172_cx) rfl rfl (Fns_assoc ⟨b299, trivial⟩) (n := 400) (lp_ok) (enters Tryz.func299 (by kernel_rfl) rfl) (fun y => ⟨_, rfl⟩) fun x y h => at_eq (Q := fun x y => acall u299_172_cx okT lpT 400 (.fn 299 [] []) (RT.shape S299A x) [] (leafK S299B y)) (Eq.mpr u299_172_t rfl) h
noncomputable def u242_173_cx : Cx := ⟨tyT, [c242, c273, c298, (299, tabE S299A S299B u299_172.2 [u299_172])], gsT, eqT, false, [1000000, 34]⟩
def u242_173 : (Int × Int) × (Int × Bool) := ((72057594037927936, 0), (56, true))
theorem u242_173_t : acall u242_173_cx okT lpT 400 (.fn 242 [] []) (RT.shape S242A u242_173.1) [] (leafK S242B u242_173.2) = (u242_173.2 = u242_173.2) := by kernel_rfl
theorem u242_173_at : At Tryz.prog gsT 242 S242A S242B u242_173 := fo (c := u242_173_cx) rfl rfl (Fns_assoc ⟨b242, b273, b298, tab_ok ⟨u299_172_at, trivial⟩, trivial⟩) (n := 400) (lp_ok) (enters Tryz.func242 (by kernel_rfl) rfl) (fun y => ⟨_, rfl⟩) fun x y h => at_eq (Q := fun x y => acall u242_173_cx okT lpT 400 (.fn 242 [] []) (RT.shape S242A x) [] (leafK S242B y)) (Eq.mpr u242_173_t rfl) h
noncomputable def u169_174_cx : Cx := ⟨tyT, [(34, tabE S34A S34B u34_149.2 [u34_149]), (84, tabE S84A S84B u84_148.2 [u84_148]), c169], gsT, eqT, false, [1000000, 34]⟩
def u169_174 : (List ((Int × Bool × (Int × Int × Int × Int × Int) × Int × Int × Int × Int) × Bool × Int × (Int × Int × Int) × List Int)) × (List ((Int × Bool × (Int × Int × Int × Int × Int) × Int × Int × Int × Int) × Bool × Int × (Int × Int × Int) × List Int)) := ([((7, (false, ((1, (16777215, (4294967294, (8190, 127)))), (0, (0, (0, 0)))))), (false, (3600, ((0, (0, 0)), []))))], [((7, (false, ((1, (16777215, (4294967294, (8190, 127)))), (0, (0, (0, 0)))))), (false, (3600, ((0, (0, 0)), []))))])
def u169_174_F (i : Ip) : Prop :=
  (i.cp 1 fun c1 hc1 => (i.cp 0 fun c2 hc2 => (i.tr (true && (true && (Nat.beq c1 c1))) (band rfl (band rfl (Nat.beq_refl _))) (u169_174.2 = u169_174.2))))
theorem u169_174_t : acall u169_174_cx okT lpT 400 (.fn 169 [] []) (RT.shape S169A u169_174.1) [] (leafK S169B u169_174.2) = u169_174_F ipT := by kernel_rfl
theorem u169_174_r : u169_174_F ipT := by
  unfold u169_174_F
  refine MI.run (A := (u169_174.2 = u169_174.2)) ?_ rfl
  repeat' (first | intro _ | with_reducible constructor)
theorem u169_174_at : At Tryz.prog gsT 169 S169A S169B u169_174 := fo (c := u169_174_cx) rfl rfl (Fns_assoc ⟨tab_ok ⟨u34_149_at, trivial⟩, tab_ok ⟨u84_148_at, trivial⟩, b169, trivial⟩) (n := 400) (lp_ok) (enters Tryz.func169 (by kernel_rfl) rfl) (fun y => ⟨_, rfl⟩) fun x y h => at_eq (Q := fun x y => acall u169_174_cx okT lpT 400 (.fn 169 [] []) (RT.shape S169A x) [] (leafK S169B y)) (Eq.mpr u169_174_t u169_174_r) h
abbrev S122A : RT := (.cons (.sl (.pr (.pr (.int .u32) (.pr .bool (.pr (.pr (.int .u64) (.pr (.int .u64) (.pr (.int .u64) (.pr (.int .u64) (.int .u64))))) (.pr (.int .i64) (.pr (.int .i64) (.pr (.int .i64) (.int .i64))))))) (.pr .bool (.pr (.int .i64) (.pr (.pr (.int .u64) (.pr (.int .i64) (.int .i64))) (.sl (.int .i64))))))) (.one (.int .u32)))
abbrev S122B : RT := (.tup (.cons (.agg (.cons (.int .u32) (.cons .bool (.cons (.int .u64) (.cons (.int .u64) (.cons (.int .u64) (.cons (.int .u64) (.cons (.int .u64) (.cons (.int .i64) (.cons (.int .i64) (.cons (.int .i64) (.cons (.int .i64) (.cons .bool (.cons (.int .i64) (.cons (.int .u64) (.cons (.int .i64) (.cons (.int .i64) (.one (.sl (.int .i64)))))))))))))))))))) (.one .bool)))
noncomputable def c122 : Nat × Ent := (122, .body Tryz.f122)
theorem b122 {c : Cx} : EntOk Tryz.prog c 122 (.body Tryz.f122) := body_ent Tryz.func122 (by kernel_rfl) (by kernel_rfl)
noncomputable def c133 : Nat × Ent := (133, .body Tryz.f133)
theorem b133 {c : Cx} : EntOk Tryz.prog c 133 (.body Tryz.f133) := body_ent Tryz.func133 (by kernel_rfl) (by kernel_rfl)
noncomputable def c160 : Nat × Ent := (160, .body Tryz.f160)
theorem b160 {c : Cx} : EntOk Tryz.prog c 160 (.body Tryz.f160) := body_ent Tryz.func160 (by kernel_rfl) (by kernel_rfl)
noncomputable def u122_175_cx : Cx := ⟨tyT, [(38, tabE S38A S38B u38_161.2 [u38_161]), c107, c122, c133, c160, (169, tabE S169A S169B u169_174.2 [u169_174])], gsT, eqT, false, [1000000, 34]⟩
def u122_175 : ((List ((Int × Bool × (Int × Int × Int × Int × Int) × Int × Int × Int × Int) × Bool × Int × (Int × Int × Int) × List Int)) × Int) × ((Int × Bool × Int × Int × Int × Int × Int × Int × Int × Int × Int × Bool × Int × Int × Int × Int × List Int) × Bool) := (([((7, (false, ((1, (16777215, (4294967294, (8190, 127)))), (0, (0, (0, 0)))))), (false, (3600, ((0, (0, 0)), []))))], 7), ((7, (false, (1, (16777215, (4294967294, (8190, (127, (0, (0, (0, (0, (false, (3600, (0, (0, (0, [])))))))))))))))), true))
def u122_175_F (i : Ip) : Prop :=
  (i.cp 1 fun c1 hc1 => (u122_175.2 = u122_175.2))
theorem u122_175_t : acall u122_175_cx okT lpT 400 (.fn 122 [] []) (RT.shape S122A u122_175.1) [] (leafK S122B u122_175.2) = u122_175_F ipT := by kernel_rfl
theorem u122_175_r : u122_175_F ipT := by
  unfold u122_175_F
  refine MI.run (A := (u122_175.2 = u122_175.2)) ?_ rfl
  repeat' (first | intro _ | with_reducible constructor)
theorem u122_175_at : At Tryz.prog gsT 122 S122A S122B u122_175 := fo (c := u122_175_cx) rfl rfl (Fns_assoc ⟨tab_ok ⟨u38_161_at, trivial⟩, b107, b122, b133, b160, tab_ok ⟨u169_174_at, trivial⟩, trivial⟩) (n := 400) (lp_ok) (enters Tryz.func122 (by kernel_rfl) rfl) (fun y => ⟨_, rfl⟩) fun x y h => at_eq (Q := fun x y => acall u122_175_cx okT lpT 400 (.fn 122 [] []) (RT.shape S122A x) [] (leafK S122B y)) (Eq.mpr u122_175_t u122_175_r) h
noncomputable def u219_176_cx : Cx := ⟨tyT, [c219], gsT, eqT, false, [1000000, 34]⟩
def u219_176 : (Int) × (Int) := (3600, 0)
theorem u219_176_t : acall u219_176_cx okT lpT 400 (.fn 219 [] []) (RT.shape S219A u219_176.1) [] (leafK S219B u219_176.2) = (u219_176.2 = u219_176.2) := by kernel_rfl
theorem u219_176_at : At Tryz.prog gsT 219 S219A S219B u219_176 := fo (c := u219_176_cx) rfl rfl (Fns_assoc ⟨b219, trivial⟩) (n := 400) (lp_ok) (enters Tryz.func219 (by kernel_rfl) rfl) (fun y => ⟨_, rfl⟩) fun x y h => at_eq (Q := fun x y => acall u219_176_cx okT lpT 400 (.fn 219 [] []) (RT.shape S219A x) [] (leafK S219B y)) (Eq.mpr u219_176_t rfl) h
abbrev S261A : RT := (.cons (.agg (.cons (.int .u64) (.cons (.int .u64) (.cons (.int .u64) (.cons (.int .u64) (.one (.int .u64))))))) (.one (.int .i64)))
abbrev S261B : RT := (.tup (.cons (.int .i64) (.one .bool)))
noncomputable def c261 : Nat × Ent := (261, .body Tryz.f261)
theorem b261 {c : Cx} : EntOk Tryz.prog c 261 (.body Tryz.f261) := body_ent Tryz.func261 (by kernel_rfl) (by kernel_rfl)
noncomputable def c294 : Nat × Ent := (294, .body Tryz.f294)
theorem b294 {c : Cx} : EntOk Tryz.prog c 294 (.body Tryz.f294) := body_ent Tryz.func294 (by kernel_rfl) (by kernel_rfl)
noncomputable def u261_177_cx : Cx := ⟨tyT, [(140, tabE S140A S140B u140_80.2 [u140_80]), c218, (219, tabE S219A S219B u219_176.2 [u219_176]), c254, c255, c261, c289, (290, tabE S290A S290B u290_94.2 [u290_94]), (291, tabE S291A S291B u291_99.2 [u291_99]), c292, c293, c294, c314, (315, tabE S315A S315B u315_130.2 [u315_130, u315_126])], gsT, eqT, false, [1000000, 34]⟩
def u261_177 : ((Int × Int × Int × Int × Int) × Int) × (Int × Bool) := (((1, (16777215, (4294967294, (8190, 127)))), 3600), (3600, true))
def u261_177_F (i : Ip) : Prop :=
  (i.an 1 (u261_177.2 = u261_177.2))
theorem u261_177_t : acall u261_177_cx okT lpT 400 (.fn 261 [] []) (RT.shape S261A u261_177.1) [] (leafK S261B u261_177.2) = u261_177_F ipT := by kernel_rfl
theorem u261_177_r : u261_177_F ipT := by
  unfold u261_177_F
  refine MI.run (A := (u261_177.2 = u261_177.2)) ?_ rfl
  repeat' (first | intro _ | with_reducible constructor)
theorem u261_177_at : At Tryz.prog gsT 261 S261A S261B u261_177 := fo (c := u261_177_cx) rfl rfl (Fns_assoc ⟨tab_ok ⟨u140_80_at, trivial⟩, b218, tab_ok ⟨u219_176_at, trivial⟩, b254, b255, b261, b289, tab_ok ⟨u290_94_at, trivial⟩, tab_ok ⟨u291_99_at, trivial⟩, b292, b293, b294, b314, tab_ok ⟨u315_130_at, u315_126_at, trivial⟩, trivial⟩) (n := 400) (lp_ok) (enters Tryz.func261 (by kernel_rfl) rfl) (fun y => ⟨_, rfl⟩) fun x y h => at_eq (Q := fun x y => acall u261_177_cx okT lpT 400 (.fn 261 [] []) (RT.shape S261A x) [] (leafK S261B y)) (Eq.mpr u261_177_t u261_177_r) h
abbrev S162A : RT := (.cons (.agg (.cons (.int .u32) (.cons .bool (.cons (.int .u64) (.cons (.int .u64) (.cons (.int .u64) (.cons (.int .u64) (.cons (.int .u64) (.cons (.int .i64) (.cons (.int .i64) (.cons (.int .i64) (.one (.int .i64))))))))))))) (.one (.int .i64)))
abbrev S162B : RT := (.tup (.cons (.int .i64) (.one .bool)))
noncomputable def c162 : Nat × Ent := (162, .body Tryz.f162)
theorem b162 {c : Cx} : EntOk Tryz.prog c 162 (.body Tryz.f162) := body_ent Tryz.func162 (by kernel_rfl) (by kernel_rfl)
noncomputable def c260 : Nat × Ent := (260, .body Tryz.f260)
theorem b260 {c : Cx} : EntOk Tryz.prog c 260 (.body Tryz.f260) := body_ent Tryz.func260 (by kernel_rfl) (by kernel_rfl)
noncomputable def u162_178_cx : Cx := ⟨tyT, [(103, tabE S103A S103B u103_133.2 [u103_133]), c162, c180, c222, c260, (261, tabE S261A S261B u261_177.2 [u261_177])], gsT, eqT, false, [1000000, 34]⟩
def u162_178 : ((Int × Bool × Int × Int × Int × Int × Int × Int × Int × Int × Int) × Int) × (Int × Bool) := (((7, (false, (1, (16777215, (4294967294, (8190, (127, (0, (0, (0, 0)))))))))), 3600), (3600, true))
theorem u162_178_t : acall u162_178_cx okT lpT 400 (.fn 162 [] []) (RT.shape S162A u162_178.1) [] (leafK S162B u162_178.2) = (u162_178.2 = u162_178.2) := by kernel_rfl
theorem u162_178_at : At Tryz.prog gsT 162 S162A S162B u162_178 := fo (c := u162_178_cx) rfl rfl (Fns_assoc ⟨tab_ok ⟨u103_133_at, trivial⟩, b162, b180, b222, b260, tab_ok ⟨u261_177_at, trivial⟩, trivial⟩) (n := 400) (lp_ok) (enters Tryz.func162 (by kernel_rfl) rfl) (fun y => ⟨_, rfl⟩) fun x y h => at_eq (Q := fun x y => acall u162_178_cx okT lpT 400 (.fn 162 [] []) (RT.shape S162A x) [] (leafK S162B y)) (Eq.mpr u162_178_t rfl) h
noncomputable def u179_179_cx : Cx := ⟨tyT, [(140, tabE S140A S140B u140_80.2 [u140_80]), c179, c218, (219, tabE S219A S219B u219_176.2 [u219_176]), c220, c254, c255, c289, (290, tabE S290A S290B u290_94.2 [u290_94]), (291, tabE S291A S291B u291_99.2 [u291_99]), c292, c293, c314, (315, tabE S315A S315B u315_130.2 [u315_130, u315_126])], gsT, eqT, false, [1000000, 34]⟩
def u179_179 : ((Int × Int × Int × Int × Int) × Int) × (Int × Bool) := (((1, (16777215, (4294967294, (8190, 127)))), 3600), (7200, true))
def u179_179_F (i : Ip) : Prop :=
  (i.an 1 (u179_179.2 = u179_179.2))
theorem u179_179_t : acall u179_179_cx okT lpT 400 (.fn 179 [] []) (RT.shape S179A u179_179.1) [] (leafK S179B u179_179.2) = u179_179_F ipT := by kernel_rfl
theorem u179_179_r : u179_179_F ipT := by
  unfold u179_179_F
  refine MI.run (A := (u179_179.2 = u179_179.2)) ?_ rfl
  repeat' (first | intro _ | with_reducible constructor)
theorem u179_179_at : At Tryz.prog gsT 179 S179A S179B u179_179 := fo (c := u179_179_cx) rfl rfl (Fns_assoc ⟨tab_ok ⟨u140_80_at, trivial⟩, b179, b218, tab_ok ⟨u219_176_at, trivial⟩, b220, b254, b255, b289, tab_ok ⟨u290_94_at, trivial⟩, tab_ok ⟨u291_99_at, trivial⟩, b292, b293, b314, tab_ok ⟨u315_130_at, u315_126_at, trivial⟩, trivial⟩) (n := 400) (lp_ok) (enters Tryz.func179 (by kernel_rfl) rfl) (fun y => ⟨_, rfl⟩) fun x y h => at_eq (Q := fun x y => acall u179_179_cx okT lpT 400 (.fn 179 [] []) (RT.shape S179A x) [] (leafK S179B y)) (Eq.mpr u179_179_t u179_179_r) h
noncomputable def u142_180_cx : Cx := ⟨tyT, [(103, tabE S103A S103B u103_133.2 [u103_133]), c142, (179, tabE S179A S179B u179_179.2 [u179_179]), c180, c222, c259], gsT, eqT, false, [1000000, 34]⟩
def u142_180 : ((Int × Bool × Int × Int × Int × Int × Int × Int × Int × Int × Int) × Int) × (Int × Bool) := (((7, (false, (1, (16777215, (4294967294, (8190, (127, (0, (0, (0, 0)))))))))), 3600), (7200, true))
theorem u142_180_t : acall u142_180_cx okT lpT 400 (.fn 142 [] []) (RT.shape S142A u142_180.1) [] (leafK S142B u142_180.2) = (u142_180.2 = u142_180.2) := by kernel_rfl
theorem u142_180_at : At Tryz.prog gsT 142 S142A S142B u142_180 := fo (c := u142_180_cx) rfl rfl (Fns_assoc ⟨tab_ok ⟨u103_133_at, trivial⟩, b142, tab_ok ⟨u179_179_at, trivial⟩, b180, b222, b259, trivial⟩) (n := 400) (lp_ok) (enters Tryz.func142 (by kernel_rfl) rfl) (fun y => ⟨_, rfl⟩) fun x y h => at_eq (Q := fun x y => acall u142_180_cx okT lpT 400 (.fn 142 [] []) (RT.shape S142A x) [] (leafK S142B y)) (Eq.mpr u142_180_t rfl) h
abbrev S167A : RT := (.cons (.agg (.cons (.int .u32) (.cons .bool (.cons (.int .u64) (.cons (.int .u64) (.cons (.int .u64) (.cons (.int .u64) (.cons (.int .u64) (.cons (.int .i64) (.cons (.int .i64) (.cons (.int .i64) (.one (.int .i64))))))))))))) (.one (.int .i64)))
abbrev S167B : RT := (.int .i64)
noncomputable def c167 : Nat × Ent := (167, .body Tryz.f167)
theorem b167 {c : Cx} : EntOk Tryz.prog c 167 (.body Tryz.f167) := body_ent Tryz.func167 (by kernel_rfl) (by kernel_rfl)
noncomputable def u167_181_cx : Cx := ⟨tyT, [(142, tabE S142A S142B u142_180.2 [u142_180]), c167], gsT, eqT, false, [1000000, 34]⟩
def u167_181 : ((Int × Bool × Int × Int × Int × Int × Int × Int × Int × Int × Int) × Int) × (Int) := (((7, (false, (1, (16777215, (4294967294, (8190, (127, (0, (0, (0, 0)))))))))), 3600), 7200)
theorem u167_181_t : acall u167_181_cx okT lpT 400 (.fn 167 [] []) (RT.shape S167A u167_181.1) [] (leafK S167B u167_181.2) = (u167_181.2 = u167_181.2) := by kernel_rfl
theorem u167_181_at : At Tryz.prog gsT 167 S167A S167B u167_181 := fo (c := u167_181_cx) rfl rfl (Fns_assoc ⟨tab_ok ⟨u142_180_at, trivial⟩, b167, trivial⟩) (n := 400) (lp_ok) (enters Tryz.func167 (by kernel_rfl) rfl) (fun y => ⟨_, rfl⟩) fun x y h => at_eq (Q := fun x y => acall u167_181_cx okT lpT 400 (.fn 167 [] []) (RT.shape S167A x) [] (leafK S167B y)) (Eq.mpr u167_181_t rfl) h
abbrev S123A : RT := (.cons (.agg (.cons (.int .u32) (.cons .bool (.cons (.int .u64) (.cons (.int .u64) (.cons (.int .u64) (.cons (.int .u64) (.cons (.int .u64) (.cons (.int .i64) (.cons (.int .i64) (.cons (.int .i64) (.cons (.int .i64) (.cons .bool (.cons (.int .i64) (.cons (.int .u64) (.cons (.int .i64) (.cons (.int .i64) (.one (.sl (.int .i64)))))))))))))))))))) (.one (.int .i64)))
abbrev S123B : RT := (.tup (.cons (.sl (.int .i64)) (.one (.int .i64))))
noncomputable def c123 : Nat × Ent := (123, .body Tryz.f123)
theorem b123 {c : Cx} : EntOk Tryz.prog c 123 (.body Tryz.f123) := body_ent Tryz.func123 (by kernel_rfl) (by kernel_rfl)
noncomputable def c161 : Nat × Ent := (161, .body Tryz.f161)
theorem b161 {c : Cx} : EntOk Tryz.prog c 161 (.body Tryz.f161) := body_ent Tryz.func161 (by kernel_rfl) (by kernel_rfl)
noncomputable def c163 : Nat × Ent := (163, .body Tryz.f163)
theorem b163 {c : Cx} : EntOk Tryz.prog c 163 (.body Tryz.f163) := body_ent Tryz.func163 (by kernel_rfl) (by kernel_rfl)
noncomputable def u123_182_cx : Cx := ⟨tyT, [(37, tabE S37A S37B u37_155.2 [u37_155]), (64, tabE S64A S64B u64_160.2 [u64_160]), c123, c161, (162, tabE S162A S162B u162_178.2 [u162_178]), c163, (167, tabE S167A S167B u167_181.2 [u167_181])], gsT, eqT, false, [1000000, 34]⟩
def u123_182 : ((Int × Bool × Int × Int × Int × Int × Int × Int × Int × Int × Int × Bool × Int × Int × Int × Int × List Int) × Int) × (List Int × Int) := (((7, (false, (1, (16777215, (4294967294, (8190, (127, (0, (0, (0, (0, (false, (3600, (0, (0, (0, [])))))))))))))))), 3600), ([3600], 7200))
def u123_182_F (i : Ip) : Prop :=
  (i.a2 (u123_182.2 = u123_182.2) (i.a2 (i.an 1 (u123_182.2 = u123_182.2)) (i.an 1 (u123_182.2 = u123_182.2))))
theorem u123_182_t : acall u123_182_cx okT lpT 400 (.fn 123 [] []) (RT.shape S123A u123_182.1) [] (leafK S123B u123_182.2) = u123_182_F ipT := by kernel_rfl
theorem u123_182_r : u123_182_F ipT := by
  unfold u123_182_F
  refine MI.run (A := (u123_182.2 = u123_182.2)) ?_ rfl
  repeat' (first | intro _ | with_reducible constructor)
theorem u123_182_at : At Tryz.prog gsT 123 S123A S123B u123_182 := fo (c := u123_182_cx) rfl rfl (Fns_assoc ⟨tab_ok ⟨u37_155_at, trivial⟩, tab_ok ⟨u64_160_at, trivial⟩, b123, b161, tab_ok ⟨u162_178_at, trivial⟩, b163, tab_ok ⟨u167_181_at, trivial⟩, trivial⟩) (n := 400) (lp_ok) (enters Tryz.func123 (by kernel_rfl) rfl) (fun y => ⟨_, rfl⟩) fun x y h => at_eq (Q := fun x y => acall u123_182_cx okT lpT 400 (.fn 123 [] []) (RT.shape S123A x) [] (leafK S123B y)) (Eq.mpr u123_182_t u123_182_r) h
abbrev S89A : RT := (.cons (.agg (.cons (.int .u32) (.cons .bool (.cons (.int .u64) (.cons (.int .u64) (.cons (.int .u64) (.cons (.int .u64) (.cons (.int .u64) (.cons (.int .i64) (.cons (.int .i64) (.cons (.int .i64) (.cons (.int .i64) (.cons .bool (.cons (.int .i64) (.cons (.int .u64) (.cons (.int .i64) (.cons (.int .i64) (.one (.sl (.int .i64)))))))))))))))))))) (.cons (.int .i64) (.one (.int .u64))))
abbrev S89B : RT := (.tup (.cons (.agg (.cons (.int .u32) (.cons .bool (.cons (.int .u64) (.cons (.int .u64) (.cons (.int .u64) (.cons (.int .u64) (.cons (.int .u64) (.cons (.int .i64) (.cons (.int .i64) (.cons (.int .i64) (.cons (.int .i64) (.cons .bool (.cons (.int .i64) (.cons (.int .u64) (.cons (.int .i64) (.cons (.int .i64) (.one (.sl (.int .i64)))))))))))))))))))) (.cons (.sl (.pr (.int .u64) (.pr (.int .u32) (.pr (.int .i64) (.int .i64))))) (.one (.int .i64)))))
noncomputable def c89 : Nat × Ent := (89, .body Tryz.f89)
theorem b89 {c : Cx} : EntOk Tryz.prog c 89 (.body Tryz.f89) := body_ent Tryz.func89 (by kernel_rfl) (by kernel_rfl)
noncomputable def c124 : Nat × Ent := (124, .body Tryz.f124)
theorem b124 {c : Cx} : EntOk Tryz.prog c 124 (.body Tryz.f124) := body_ent Tryz.func124 (by kernel_rfl) (by kernel_rfl)
noncomputable def c125 : Nat × Ent := (125, .body Tryz.f125)
theorem b125 {c : Cx} : EntOk Tryz.prog c 125 (.body Tryz.f125) := body_ent Tryz.func125 (by kernel_rfl) (by kernel_rfl)
noncomputable def c126 : Nat × Ent := (126, .body Tryz.f126)
theorem b126 {c : Cx} : EntOk Tryz.prog c 126 (.body Tryz.f126) := body_ent Tryz.func126 (by kernel_rfl) (by kernel_rfl)
noncomputable def c135 : Nat × Ent := (135, .body Tryz.f135)
theorem b135 {c : Cx} : EntOk Tryz.prog c 135 (.body Tryz.f135) := body_ent Tryz.func135 (by kernel_rfl) (by kernel_rfl)
noncomputable def u89_183_cx : Cx := ⟨tyT, [(34, tabE S34A S34B u34_149.2 [u34_149]), (37, tabE S37A S37B u37_155.2 [u37_155]), (64, tabE S64A S64B u64_160.2 [u64_160]), c89, (123, tabE S123A S123B u123_182.2 [u123_182]), c124, c125, c126, c135], gsT, eqT, false, [1000000, 34]⟩
def u89_183 : ((Int × Bool × Int × Int × Int × Int × Int × Int × Int × Int × Int × Bool × Int × Int × Int × Int × List Int) × Int × Int) × ((Int × Bool × Int × Int × Int × Int × Int × Int × Int × Int × Int × Bool × Int × Int × Int × Int × List Int) × (List (Int × Int × Int × Int)) × Int) := (((7, (false, (1, (16777215, (4294967294, (8190, (127, (0, (0, (0, (0, (false, (3600, (0, (0, (0, [])))))))))))))))), (3600, 1)), ((7, (false, (1, (16777215, (4294967294, (8190, (127, (0, (0, (0, (0, (false, (7200, (1, (3600, (0, [])))))))))))))))), ([(1, (7, (3600, 0)))], 0)))
def u89_183_F (i : Ip) : Prop :=
  (i.cp 0 fun c1 hc1 => (i.an 1 (u89_183.2 = u89_183.2)))
theorem u89_183_t : acall u89_183_cx okT lpT 400 (.fn 89 [] []) (RT.shape S89A u89_183.1) [] (leafK S89B u89_183.2) = u89_183_F ipT := by kernel_rfl
theorem u89_183_r : u89_183_F ipT := by
  unfold u89_183_F
  refine MI.run (A := (u89_183.2 = u89_183.2)) ?_ rfl
  repeat' (first | intro _ | with_reducible constructor)
theorem u89_183_at : At Tryz.prog gsT 89 S89A S89B u89_183 := fo (c := u89_183_cx) rfl rfl (Fns_assoc ⟨tab_ok ⟨u34_149_at, trivial⟩, tab_ok ⟨u37_155_at, trivial⟩, tab_ok ⟨u64_160_at, trivial⟩, b89, tab_ok ⟨u123_182_at, trivial⟩, b124, b125, b126, b135, trivial⟩) (n := 400) (lp_ok) (enters Tryz.func89 (by kernel_rfl) rfl) (fun y => ⟨_, rfl⟩) fun x y h => at_eq (Q := fun x y => acall u89_183_cx okT lpT 400 (.fn 89 [] []) (RT.shape S89A x) [] (leafK S89B y)) (Eq.mpr u89_183_t u89_183_r) h
noncomputable def u104_184_cx : Cx := ⟨tyT, [c104], gsT, eqT, false, [1000000, 34]⟩
def u104_184 : (Int × Bool × Int × Int × Int × Int × Int × Int × Int × Int × Int × Bool × Int × Int × Int × Int × List Int) × (List Int) := ((7, (false, (1, (16777215, (4294967294, (8190, (127, (0, (0, (0, (0, (false, (7200, (1, (3600, (0, [])))))))))))))))), [3600, 7200])
def u104_184_F (i : Ip) : Prop :=
  (i.cp 1 fun c1 hc1 => (i.tr (((true && true) && (Nat.beq c1 c1)) && true) (band (band (band rfl rfl) (Nat.beq_refl _)) rfl) (i.cp 1 fun c2 hc2 => (i.tr (((((true && true) && true) && true) && (Nat.beq c2 c2)) && true) (band (band (band (band (band rfl rfl) rfl) rfl) (Nat.beq_refl _)) rfl) (i.cp 2 fun c3 hc3 => (u104_184.2 = u104_184.2))))))
theorem u104_184_t : acall u104_184_cx okT lpT 400 (.fn 104 [] []) (RT.shape S104A u104_184.1) [] (leafK S104B u104_184.2) = u104_184_F ipT := by kernel_rfl
theorem u104_184_r : u104_184_F ipT := by
  unfold u104_184_F
  refine MI.run (A := (u104_184.2 = u104_184.2)) ?_ rfl
  repeat' (first | intro _ | with_reducible constructor)
theorem u104_184_at : At Tryz.prog gsT 104 S104A S104B u104_184 := fo (c := u104_184_cx) rfl rfl (Fns_assoc ⟨b104, trivial⟩) (n := 400) (lp_ok) (enters Tryz.func104 (by kernel_rfl) rfl) (fun y => ⟨_, rfl⟩) fun x y h => at_eq (Q := fun x y => acall u104_184_cx okT lpT 400 (.fn 104 [] []) (RT.shape S104A x) [] (leafK S104B y)) (Eq.mpr u104_184_t u104_184_r) h
noncomputable def u105_185_cx : Cx := ⟨tyT, [c105], gsT, eqT, false, [1000000, 34]⟩
def u105_185 : (List Int) × (Bool) := ([3600, 7200], true)
theorem u105_185_t : acall u105_185_cx okT lpT 400 (.fn 105 [] []) (RT.shape S105A u105_185.1) [] (leafK S105B u105_185.2) = (u105_185.2 = u105_185.2) := by kernel_rfl
theorem u105_185_at : At Tryz.prog gsT 105 S105A S105B u105_185 := fo (c := u105_185_cx) rfl rfl (Fns_assoc ⟨b105, trivial⟩) (n := 400) (lp_ok) (enters Tryz.func105 (by kernel_rfl) rfl) (fun y => ⟨_, rfl⟩) fun x y h => at_eq (Q := fun x y => acall u105_185_cx okT lpT 400 (.fn 105 [] []) (RT.shape S105A x) [] (leafK S105B y)) (Eq.mpr u105_185_t rfl) h
noncomputable def u37_186_cx : Cx := ⟨tyT, [c37], gsT, eqT, false, [1000000, 34]⟩
def u37_186 : (Int) × (Bool) := (7200, true)
theorem u37_186_t : acall u37_186_cx okT lpT 400 (.fn 37 [] []) (RT.shape S37A u37_186.1) [] (leafK S37B u37_186.2) = (u37_186.2 = u37_186.2) := by kernel_rfl
theorem u37_186_at : At Tryz.prog gsT 37 S37A S37B u37_186 := fo (c := u37_186_cx) rfl rfl (Fns_assoc ⟨b37, trivial⟩) (n := 400) (lp_ok) (enters Tryz.func37 (by kernel_rfl) rfl) (fun y => ⟨_, rfl⟩) fun x y h => at_eq (Q := fun x y => acall u37_186_cx okT lpT 400 (.fn 37 [] []) (RT.shape S37A x) [] (leafK S37B y)) (Eq.mpr u37_186_t rfl) h
noncomputable def u219_187_cx : Cx := ⟨tyT, [c219], gsT, eqT, false, [1000000, 34]⟩
def u219_187 : (Int) × (Int) := (7199, 0)
theorem u219_187_t : acall u219_187_cx okT lpT 400 (.fn 219 [] []) (RT.shape S219A u219_187.1) [] (leafK S219B u219_187.2) = (u219_187.2 = u219_187.2) := by kernel_rfl
theorem u219_187_at : At Tryz.prog gsT 219 S219A S219B u219_187 := fo (c := u219_187_cx) rfl rfl (Fns_assoc ⟨b219, trivial⟩) (n := 400) (lp_ok) (enters Tryz.func219 (by kernel_rfl) rfl) (fun y => ⟨_, rfl⟩) fun x y h => at_eq (Q := fun x y => acall u219_187_cx okT lpT 400 (.fn 219 [] []) (RT.shape S219A x) [] (leafK S219B y)) (Eq.mpr u219_187_t rfl) h
noncomputable def u179_188_cx : Cx := ⟨tyT, [(140, tabE S140A S140B u140_80.2 [u140_80]), c179, c218, (219, tabE S219A S219B u219_187.2 [u219_187]), c220, c254, c255, c289, (290, tabE S290A S290B u290_94.2 [u290_94]), (291, tabE S291A S291B u291_99.2 [u291_99]), c292, c293, c314, (315, tabE S315A S315B u315_130.2 [u315_130, u315_126])], gsT, eqT, false, [1000000, 34]⟩
def u179_188 : ((Int × Int × Int × Int × Int) × Int) × (Int × Bool) := (((1, (16777215, (4294967294, (8190, 127)))), 7199), (7200, true))
def u179_188_F (i : Ip) : Prop :=
  (i.an 1 (u179_188.2 = u179_188.2))
theorem u179_188_t : acall u179_188_cx okT lpT 400 (.fn 179 [] []) (RT.shape S179A u179_188.1) [] (leafK S179B u179_188.2) = u179_188_F ipT := by kernel_rfl
theorem u179_188_r : u179_188_F ipT := by
  unfold u179_188_F
  refine MI.run (A := (u179_188.2 = u179_188.2)) ?_ rfl
  repeat' (first | intro _ | with_reducible constructor)
theorem u179_188_at : At Tryz.prog gsT 179 S179A S179B u179_188 := fo (c := u179_188_cx) rfl rfl (Fns_assoc ⟨tab_ok ⟨u140_80_at, trivial⟩, b179, b218, tab_ok ⟨u219_187_at, trivial⟩, b220, b254, b255, b289, tab_ok ⟨u290_94_at, trivial⟩, tab_ok ⟨u291_99_at, trivial⟩, b292, b293, b314, tab_ok ⟨u315_130_at, u315_126_at, trivial⟩, trivial⟩) (n := 400) (lp_ok) (enters Tryz.func179 (by kernel_rfl) rfl) (fun y => ⟨_, rfl⟩) fun x y h => at_eq (Q := fun x y => acall u179_188_cx okT lpT 400 (.fn 179 [] []) (RT.shape S179A x) [] (leafK S179B y)) (Eq.mpr u179_188_t u179_188_r) h
noncomputable def u142_189_cx : Cx := ⟨tyT, [(103, tabE S103A S103B u103_133.2 [u103_133]), c142, (179, tabE S179A S179B u179_188.2 [u179_188]), c180, c222, c259], gsT, eqT, false, [1000000, 34]⟩
def u142_189 : ((Int × Bool × Int × Int × Int × Int × Int × Int × Int × Int × Int) × Int) × (Int × Bool) := (((7, (false, (1, (16777215, (4294967294, (8190, (127, (0, (0, (0, 0)))))))))), 7199), (7200, true))
theorem u142_189_t : acall u142_189_cx okT lpT 400 (.fn 142 [] []) (RT.shape S142A u142_189.1) [] (leafK S142B u142_189.2) = (u142_189.2 = u142_189.2) := by kernel_rfl
theorem u142_189_at : At Tryz.prog gsT 142 S142A S142B u142_189 := fo (c := u142_189_cx) rfl rfl (Fns_assoc ⟨tab_ok ⟨u103_133_at, trivial⟩, b142, tab_ok ⟨u179_188_at, trivial⟩, b180, b222, b259, trivial⟩) (n := 400) (lp_ok) (enters Tryz.func142 (by kernel_rfl) rfl) (fun y => ⟨_, rfl⟩) fun x y h => at_eq (Q := fun x y => acall u142_189_cx okT lpT 400 (.fn 142 [] []) (RT.shape S142A x) [] (leafK S142B y)) (Eq.mpr u142_189_t rfl) h
noncomputable def u106_190_cx : Cx := ⟨tyT, [c106, (142, tabE S142A S142B u142_189.2 [u142_189])], gsT, eqT, false, [1000000, 34]⟩
def u106_190 : ((Int × Bool × Int × Int × Int × Int × Int × Int × Int × Int × Int) × Int) × (Bool) := (((7, (false, (1, (16777215, (4294967294, (8190, (127, (0, (0, (0, 0)))))))))), 7200), true)
theorem u106_190_t : acall u106_190_cx okT lpT 400 (.fn 106 [] []) (RT.shape S106A u106_190.1) [] (leafK S106B u106_190.2) = (u106_190.2 = u106_190.2) := by kernel_rfl
theorem u106_190_at : At Tryz.prog gsT 106 S106A S106B u106_190 := fo (c := u106_190_cx) rfl rfl (Fns_assoc ⟨b106, tab_ok ⟨u142_189_at, trivial⟩, trivial⟩) (n := 400) (lp_ok) (enters Tryz.func106 (by kernel_rfl) rfl) (fun y => ⟨_, rfl⟩) fun x y h => at_eq (Q := fun x y => acall u106_190_cx okT lpT 400 (.fn 106 [] []) (RT.shape S106A x) [] (leafK S106B y)) (Eq.mpr u106_190_t rfl) h
noncomputable def u64_191_cx : Cx := ⟨tyT, [(37, tabE S37A S37B u37_155.2 [u37_155, u37_186]), c64, (103, tabE S103A S103B u103_133.2 [u103_133]), (104, tabE S104A S104B u104_184.2 [u104_184]), (105, tabE S105A S105B u105_185.2 [u105_185]), (106, tabE S106A S106B u106_159.2 [u106_159, u106_190])], gsT, eqT, false, [1000000, 34]⟩
def u64_191 : (Int × Bool × Int × Int × Int × Int × Int × Int × Int × Int × Int × Bool × Int × Int × Int × Int × List Int) × (Int) := ((7, (false, (1, (16777215, (4294967294, (8190, (127, (0, (0, (0, (0, (false, (7200, (1, (3600, (0, [])))))))))))))))), 0)
theorem u64_191_t : acall u64_191_cx okT lpT 400 (.fn 64 [] []) (RT.shape S64A u64_191.1) [] (leafK S64B u64_191.2) = (u64_191.2 = u64_191.2) := by kernel_rfl
theorem u64_191_at : At Tryz.prog gsT 64 S64A S64B u64_191 := fo (c := u64_191_cx) rfl rfl (Fns_assoc ⟨tab_ok ⟨u37_155_at, u37_186_at, trivial⟩, b64, tab_ok ⟨u103_133_at, trivial⟩, tab_ok ⟨u104_184_at, trivial⟩, tab_ok ⟨u105_185_at, trivial⟩, tab_ok ⟨u106_159_at, u106_190_at, trivial⟩, trivial⟩) (n := 400) (lp_ok) (enters Tryz.func64 (by kernel_rfl) rfl) (fun y => ⟨_, rfl⟩) fun x y h => at_eq (Q := fun x y => acall u64_191_cx okT lpT 400 (.fn 64 [] []) (RT.shape S64A x) [] (leafK S64B y)) (Eq.mpr u64_191_t rfl) h
abbrev S249A : RT := (.one (.int .u32))
abbrev S249B : RT := .bool
noncomputable def c249 : Nat × Ent := (249, .body Tryz.f249)
theorem b249 {c : Cx} : EntOk Tryz.prog c 249 (.body Tryz.f249) := body_ent Tryz.func249 (by kernel_rfl) (by kernel_rfl)
noncomputable def u249_192_cx : Cx := ⟨tyT, [c249], gsT, eqT, false, [1000000, 34]⟩
def u249_192 : (Int) × (Bool) := (7, false)
theorem u249_192_t : acall u249_192_cx okT lpT 400 (.fn 249 [] []) (RT.shape S249A u249_192.1) [] (leafK S249B u249_192.2) = (u249_192.2 = u249_192.2) := by kernel_rfl
theorem u249_192_at : At Tryz.prog gsT 249 S249A S249B u249_192 := fo (c := u249_192_cx) rfl rfl (Fns_assoc ⟨b249, trivial⟩) (n := 400) (lp_ok) (enters Tryz.func249 (by kernel_rfl) rfl) (fun y => ⟨_, rfl⟩) fun x y h => at_eq (Q := fun x y => acall u249_192_cx okT lpT 400 (.fn 249 [] []) (RT.shape S249A x) [] (leafK S249B y)) (Eq.mpr u249_192_t rfl) h
abbrev S212A : RT := (.cons (.int .u32) (.one (.int .u32)))
abbrev S212B : RT := (.int .i64)
noncomputable def c212 : Nat × Ent := (212, .body Tryz.f212)
theorem b212 {c : Cx} : EntOk Tryz.prog c 212 (.body Tryz.f212) := body_ent Tryz.func212 (by kernel_rfl) (by kernel_rfl)
noncomputable def u212_193_cx : Cx := ⟨tyT, [c212, (249, tabE S249A S249B u249_192.2 [u249_192])], gsT, eqT, false, [1000000, 34]⟩
def u212_193 : (Int × Int) × (Int) := ((7, 7), 0)
theorem u212_193_t : acall u212_193_cx okT lpT 400 (.fn 212 [] []) (RT.shape S212A u212_193.1) [] (leafK S212B u212_193.2) = (u212_193.2 = u212_193.2) := by kernel_rfl
theorem u212_193_at : At Tryz.prog gsT 212 S212A S212B u212_193 := fo (c := u212_193_cx) rfl rfl (Fns_assoc ⟨b212, tab_ok ⟨u249_192_at, trivial⟩, trivial⟩) (n := 400) (lp_ok) (enters Tryz.func212 (by kernel_rfl) rfl) (fun y => ⟨_, rfl⟩) fun x y h => at_eq (Q := fun x y => acall u212_193_cx okT lpT 400 (.fn 212 [] []) (RT.shape S212A x) [] (leafK S212B y)) (Eq.mpr u212_193_t rfl) h
noncomputable def c211 : Nat × Ent := (211, .body Tryz.f211)
theorem b211 {c : Cx} : EntOk Tryz.prog c 211 (.body Tryz.f211) := body_ent Tryz.func211 (by kernel_rfl) (by kernel_rfl)
noncomputable def u171_194_cx : Cx := ⟨tyT, [c171, c210, c211, (212, tabE S212A S212B u212_193.2 [u212_193])], gsT, eqT, false, [1000000, 34]⟩
def u171_194 : ((List ((Int × Bool × (Int × Int × Int × Int × Int) × Int × Int × Int × Int) × Bool × Int × (Int × Int × Int) × List Int)) × Int) × (Int × Bool) := (([((7, (false, ((1, (16777215, (4294967294, (8190, 127)))), (0, (0, (0, 0)))))), (false, (3600, ((0, (0, 0)), []))))], 7), (0, true))
theorem u171_194_t : acall u171_194_cx okT lpT 400 (.fn 171 [] []) (RT.shape S171A u171_194.1) [] (leafK S171B u171_194.2) = (u171_194.2 = u171_194.2) := by kernel_rfl
theorem u171_194_at : At Tryz.prog gsT 171 S171A S171B u171_194 := fo (c := u171_194_cx) rfl rfl (Fns_assoc ⟨b171, b210, b211, tab_ok ⟨u212_193_at, trivial⟩, trivial⟩) (n := 400) (lp_ok) (enters Tryz.func171 (by kernel_rfl) rfl) (fun y => ⟨_, rfl⟩) fun x y h => at_eq (Q := fun x y => acall u171_194_cx okT lpT 400 (.fn 171 [] []) (RT.shape S171A x) [] (leafK S171B y)) (Eq.mpr u171_194_t rfl) h
noncomputable def u84_195_cx : Cx := ⟨tyT, [c84], gsT, eqT, false, [1000000, 34]⟩
def u84_195 : (List ((Int × Bool × (Int × Int × Int × Int × Int) × Int × Int × Int × Int) × Bool × Int × (Int × Int × Int) × List Int)) × (List ((Int × Bool × (Int × Int × Int × Int × Int) × Int × Int × Int × Int) × Bool × Int × (Int × Int × Int) × List Int)) := ([((7, (false, ((1, (16777215, (4294967294, (8190, 127)))), (0, (0, (0, 0)))))), (false, (7200, ((1, (3600, 0)), []))))], [((7, (false, ((1, (16777215, (4294967294, (8190, 127)))), (0, (0, (0, 0)))))), (false, (7200, ((1, (3600, 0)), []))))])
def u84_195_F (i : Ip) : Prop :=
  (i.cp 1 fun c1 hc1 => (i.tr (true && (true && (Nat.beq c1 c1))) (band rfl (band rfl (Nat.beq_refl _))) (u84_195.2 = u84_195.2)))
theorem u84_195_t : acall u84_195_cx okT lpT 400 (.fn 84 [] []) (RT.shape S84A u84_195.1) [] (leafK S84B u84_195.2) = u84_195_F ipT := by kernel_rfl
theorem u84_195_r : u84_195_F ipT := by
  unfold u84_195_F
  refine MI.run (A := (u84_195.2 = u84_195.2)) ?_ rfl
  repeat' (first | intro _ | with_reducible constructor)
theorem u84_195_at : At Tryz.prog gsT 84 S84A S84B u84_195 := fo (c := u84_195_cx) rfl rfl (Fns_assoc ⟨b84, trivial⟩) (n := 400) (lp_ok) (enters Tryz.func84 (by kernel_rfl) rfl) (fun y => ⟨_, rfl⟩) fun x y h => at_eq (Q := fun x y => acall u84_195_cx okT lpT 400 (.fn 84 [] []) (RT.shape S84A x) [] (leafK S84B y)) (Eq.mpr u84_195_t u84_195_r) h
noncomputable def u169_196_cx : Cx := ⟨tyT, [(34, tabE S34A S34B u34_149.2 [u34_149]), (84, tabE S84A S84B u84_195.2 [u84_195]), c169], gsT, eqT, false, [1000000, 34]⟩
def u169_196 : (List ((Int × Bool × (Int × Int × Int × Int × Int) × Int × Int × Int × Int) × Bool × Int × (Int × Int × Int) × List Int)) × (List ((Int × Bool × (Int × Int × Int × Int × Int) × Int × Int × Int × Int) × Bool × Int × (Int × Int × Int) × List Int)) := ([((7, (false, ((1, (16777215, (4294967294, (8190, 127)))), (0, (0, (0, 0)))))), (false, (7200, ((1, (3600, 0)), []))))], [((7, (false, ((1, (16777215, (4294967294, (8190, 127)))), (0, (0, (0, 0)))))), (false, (7200, ((1, (3600, 0)), []))))])
def u169_196_F (i : Ip) : Prop :=
  (i.cp 1 fun c1 hc1 => (i.cp 0 fun c2 hc2 => (i.tr (true && (true && (Nat.beq c1 c1))) (band rfl (band rfl (Nat.beq_refl _))) (u169_196.2 = u169_196.2))))
theorem u169_196_t : acall u169_196_cx okT lpT 400 (.fn 169 [] []) (RT.shape S169A u169_196.1) [] (leafK S169B u169_196.2) = u169_196_F ipT := by kernel_rfl
theorem u169_196_r : u169_196_F ipT := by
  unfold u169_196_F
  refine MI.run (A := (u169_196.2 = u169_196.2)) ?_ rfl
  repeat' (first | intro _ | with_reducible constructor)
theorem u169_196_at : At Tryz.prog gsT 169 S169A S169B u169_196 := fo (c := u169_196_cx) rfl rfl (Fns_assoc ⟨tab_ok ⟨u34_149_at, trivial⟩, tab_ok ⟨u84_195_at, trivial⟩, b169, trivial⟩) (n := 400) (lp_ok) (enters Tryz.func169 (by kernel_rfl) rfl) (fun y => ⟨_, rfl⟩) fun x y h => at_eq (Q := fun x y => acall u169_196_cx okT lpT 400 (.fn 169 [] []) (RT.shape S169A x) [] (leafK S169B y)) (Eq.mpr u169_196_t u169_196_r) h
noncomputable def u38_197_cx : Cx := ⟨tyT, [c38, (64, tabE S64A S64B u64_191.2 [u64_191]), c65, c107], gsT, eqT, false, [1000000, 34]⟩
def u38_197 : (List ((Int × Bool × (Int × Int × Int × Int × Int) × Int × Int × Int × Int) × Bool × Int × (Int × Int × Int) × List Int)) × (Int) := ([((7, (false, ((1, (16777215, (4294967294, (8190, 127)))), (0, (0, (0, 0)))))), (false, (7200, ((1, (3600, 0)), []))))], 0)
theorem u38_197_t : acall u38_197_cx okT lpT 400 (.fn 38 [] []) (RT.shape S38A u38_197.1) [] (leafK S38B u38_197.2) = (u38_197.2 = u38_197.2) := by kernel_rfl
theorem u38_197_at : At Tryz.prog gsT 38 S38A S38B u38_197 := fo (c := u38_197_cx) rfl rfl (Fns_assoc ⟨b38, tab_ok ⟨u64_191_at, trivial⟩, b65, b107, trivial⟩) (n := 400) (lp_ok) (enters Tryz.func38 (by kernel_rfl) rfl) (fun y => ⟨_, rfl⟩) fun x y h => at_eq (Q := fun x y => acall u38_197_cx okT lpT 400 (.fn 38 [] []) (RT.shape S38A x) [] (leafK S38B y)) (Eq.mpr u38_197_t rfl) h
abbrev S127A : RT := (.cons (.sl (.pr (.pr (.int .u32) (.pr .bool (.pr (.pr (.int .u64) (.pr (.int .u64) (.pr (.int .u64) (.pr (.int .u64) (.int .u64))))) (.pr (.int .i64) (.pr (.int .i64) (.pr (.int .i64) (.int .i64))))))) (.pr .bool (.pr (.int .i64) (.pr (.pr (.int .u64) (.pr (.int .i64) (.int .i64))) (.sl (.int .i64))))))) (.one (.agg (.cons (.int .u32) (.cons .bool (.cons (.int .u64) (.cons (.int .u64) (.cons (.int .u64) (.cons (.int .u64) (.cons (.int .u64) (.cons (.int .i64) (.cons (.int .i64) (.cons (.int .i64) (.cons (.int .i64) (.cons .bool (.cons (.int .i64) (.cons (.int .u64) (.cons (.int .i64) (.cons (.int .i64) (.one (.sl (.int .i64))))))))))))))))))))))
abbrev S127B : RT := (.tup (.cons (.sl (.pr (.pr (.int .u32) (.pr .bool (.pr (.pr (.int .u64) (.pr (.int .u64) (.pr (.int .u64) (.pr (.int .u64) (.int .u64))))) (.pr (.int .i64) (.pr (.int .i64) (.pr (.int .i64) (.int .i64))))))) (.pr .bool (.pr (.int .i64) (.pr (.pr (.int .u64) (.pr (.int .i64) (.int .i64))) (.sl (.int .i64))))))) (.one (.int .i64))))
noncomputable def c127 : Nat × Ent := (127, .body Tryz.f127)
theorem b127 {c : Cx} : EntOk Tryz.prog c 127 (.body Tryz.f127) := body_ent Tryz.func127 (by kernel_rfl) (by kernel_rfl)
noncomputable def c136 : Nat × Ent := (136, .body Tryz.f136)
theorem b136 {c : Cx} : EntOk Tryz.prog c 136 (.body Tryz.f136) := body_ent Tryz.func136 (by kernel_rfl) (by kernel_rfl)
noncomputable def c168 : Nat × Ent := (168, .body Tryz.f168)
theorem b168 {c : Cx} : EntOk Tryz.prog c 168 (.body Tryz.f168) := body_ent Tryz.func168 (by kernel_rfl) (by kernel_rfl)
noncomputable def u127_198_cx : Cx := ⟨tyT, [(38, tabE S38A S38B u38_161.2 [u38_161, u38_197]), (64, tabE S64A S64B u64_191.2 [u64_191]), c127, c136, c168, (169, tabE S169A S169B u169_174.2 [u169_174, u169_196]), (171, tabE S171A S171B u171_194.2 [u171_194])], gsT, eqT, false, [1000000, 34]⟩
def u127_198 : ((List ((Int × Bool × (Int × Int × Int × Int × Int) × Int × Int × Int × Int) × Bool × Int × (Int × Int × Int) × List Int)) × Int × Bool × Int × Int × Int × Int × Int × Int × Int × Int × Int × Bool × Int × Int × Int × Int × List Int) × ((List ((Int × Bool × (Int × Int × Int × Int × Int) × Int × Int × Int × Int) × Bool × Int × (Int × Int × Int) × List Int)) × Int) := (([((7, (false, ((1, (16777215, (4294967294, (8190, 127)))), (0, (0, (0, 0)))))), (false, (3600, ((0, (0, 0)), []))))], (7, (false, (1, (16777215, (4294967294, (8190, (127, (0, (0, (0, (0, (false, (7200, (1, (3600, (0, []))))))))))))))))), ([((7, (false, ((1, (16777215, (4294967294, (8190, 127)))), (0, (0, (0, 0)))))), (false, (7200, ((1, (3600, 0)), []))))], 0))
def u127_198_F (i : Ip) : Prop :=
  (i.cp 1 fun c1 hc1 => (i.cp 1 fun c2 hc2 => (u127_198.2 = u127_198.2)))
theorem u127_198_t : acall u127_198_cx okT lpT 400 (.fn 127 [] []) (RT.shape S127A u127_198.1) [] (leafK S127B u127_198.2) = u127_198_F ipT := by kernel_rfl
theorem u127_198_r : u127_198_F ipT := by
  unfold u127_198_F
  refine MI.run (A := (u127_198.2 = u127_198.2)) ?_ rfl
  repeat' (first | intro _ | with_reducible constructor)
theorem u127_198_at : At Tryz.prog gsT 127 S127A S127B u127_198 := fo (c := u127_198_cx) rfl rfl (Fns_assoc ⟨tab_ok ⟨u38_161_at, u38_197_at, trivial⟩, tab_ok ⟨u64_191_at, trivial⟩, b127, b136, b168, tab_ok ⟨u169_174_at, u169_196_at, trivial⟩, tab_ok ⟨u171_194_at, trivial⟩, trivial⟩) (n := 400) (lp_ok) (enters Tryz.func127 (by kernel_rfl) rfl) (fun y => ⟨_, rfl⟩) fun x y h => at_eq (Q := fun x y => acall u127_198_cx okT lpT 400 (.fn 127 [] []) (RT.shape S127A x) [] (leafK S127B y)) (Eq.mpr u127_198_t u127_198_r) h
noncomputable def u58_199_cx : Cx := ⟨tyT, [(34, tabE S34A S34B u34_149.2 [u34_149]), (35, tabE S35A S35B u35_145.2 [u35_145]), c58, (84, tabE S84A S84B u84_195.2 [u84_195]), (85, tabE S85A S85B u85_150.2 [u85_150])], gsT, eqT, false, [1000000, 34]⟩
def u58_199 : (Int × Int × (List ((Int × Bool × (Int × Int × Int × Int × Int) × Int × Int × Int × Int) × Bool × Int × (Int × Int × Int) × List Int)) × List (Int × Int × Int × List Int)) × (Int × Int × (List ((Int × Bool × (Int × Int × Int × Int × Int) × Int × Int × Int × Int) × Bool × Int × (Int × Int × Int) × List Int)) × List (Int × Int × Int × List Int)) := ((3600, (1, ([((7, (false, ((1, (16777215, (4294967294, (8190, 127)))), (0, (0, (0, 0)))))), (false, (7200, ((1, (3600, 0)), []))))], [(1, (1, (0, [])))]))), (3600, (1, ([((7, (false, ((1, (16777215, (4294967294, (8190, 127)))), (0, (0, (0, 0)))))), (false, (7200, ((1, (3600, 0)), []))))], [(1, (1, (0, [])))]))))
def u58_199_F (i : Ip) : Prop :=
  (i.cp 1 fun c1 hc1 => (i.cp 0 fun c2 hc2 => (i.cp 1 fun c3 hc3 => (i.cp 0 fun c4 hc4 => (u58_199.2 = u58_199.2)))))
theorem u58_199_t : acall u58_199_cx okT lpT 400 (.fn 58 [] []) (RT.shape S58A u58_199.1) [] (leafK S58B u58_199.2) = u58_199_F ipT := by kernel_rfl
theorem u58_199_r : u58_199_F ipT := by
  unfold u58_199_F
  refine MI.run (A := (u58_199.2 = u58_199.2)) ?_ rfl
  repeat' (first | intro _ | with_reducible constructor)
theorem u58_199_at : At Tryz.prog gsT 58 S58A S58B u58_199 := fo (c := u58_199_cx) rfl rfl (Fns_assoc ⟨tab_ok ⟨u34_149_at, trivial⟩, tab_ok ⟨u35_145_at, trivial⟩, b58, tab_ok ⟨u84_195_at, trivial⟩, tab_ok ⟨u85_150_at, trivial⟩, trivial⟩) (n := 400) (lp_ok) (enters Tryz.func58 (by kernel_rfl) rfl) (fun y => ⟨_, rfl⟩) fun x y h => at_eq (Q := fun x y => acall u58_199_cx okT lpT 400 (.fn 58 [] []) (RT.shape S58A x) [] (leafK S58B y)) (Eq.mpr u58_199_t u58_199_r) h
noncomputable def c59 : Nat × Ent := (59, .body Tryz.f59)
theorem b59 {c : Cx} : EntOk Tryz.prog c 59 (.body Tryz.f59) := body_ent Tryz.func59 (by kernel_rfl) (by kernel_rfl)
noncomputable def c87 : Nat × Ent := (87, .body Tryz.f87)
theorem b87 {c : Cx} : EntOk Tryz.prog c 87 (.body Tryz.f87) := body_ent Tryz.func87 (by kernel_rfl) (by kernel_rfl)
noncomputable def c88 : Nat × Ent := (88, .body Tryz.f88)
theorem b88 {c : Cx} : EntOk Tryz.prog c 88 (.body Tryz.f88) := body_ent Tryz.func88 (by kernel_rfl) (by kernel_rfl)
noncomputable def c90 : Nat × Ent := (90, .body Tryz.f90)
theorem b90 {c : Cx} : EntOk Tryz.prog c 90 (.body Tryz.f90) := body_ent Tryz.func90 (by kernel_rfl) (by kernel_rfl)
noncomputable def c91 : Nat × Ent := (91, .body Tryz.f91)
theorem b91 {c : Cx} : EntOk Tryz.prog c 91 (.body Tryz.f91) := body_ent Tryz.func91 (by kernel_rfl) (by kernel_rfl)
noncomputable def c118 : Nat × Ent := (118, .body Tryz.f118)
theorem b118 {c : Cx} : EntOk Tryz.prog c 118 (.body Tryz.f118) := body_ent Tryz.func118 (by kernel_rfl) (by kernel_rfl)
noncomputable def c120 : Nat × Ent := (120, .body Tryz.f120)
theorem b120 {c : Cx} : EntOk Tryz.prog c 120 (.body Tryz.f120) := body_ent Tryz.func120 (by kernel_rfl) (by kernel_rfl)
noncomputable def c121 : Nat × Ent := (121, .body Tryz.f121)
theorem b121 {c : Cx} : EntOk Tryz.prog c 121 (.body Tryz.f121) := body_ent Tryz.func121 (by kernel_rfl) (by kernel_rfl)
noncomputable def c148 : Nat × Ent := (148, .body Tryz.f148)
theorem b148 {c : Cx} : EntOk Tryz.prog c 148 (.body Tryz.f148) := body_ent Tryz.func148 (by kernel_rfl) (by kernel_rfl)
noncomputable def c154 : Nat × Ent := (154, .body Tryz.f154)
theorem b154 {c : Cx} : EntOk Tryz.prog c 154 (.body Tryz.f154) := body_ent Tryz.func154 (by kernel_rfl) (by kernel_rfl)
noncomputable def c156 : Nat × Ent := (156, .body Tryz.f156)
theorem b156 {c : Cx} : EntOk Tryz.prog c 156 (.body Tryz.f156) := body_ent Tryz.func156 (by kernel_rfl) (by kernel_rfl)
noncomputable def c157 : Nat × Ent := (157, .body Tryz.f157)
theorem b157 {c : Cx} : EntOk Tryz.prog c 157 (.body Tryz.f157) := body_ent Tryz.func157 (by kernel_rfl) (by kernel_rfl)
noncomputable def c158 : Nat × Ent := (158, .body Tryz.f158)
theorem b158 {c : Cx} : EntOk Tryz.prog c 158 (.body Tryz.f158) := body_ent Tryz.func158 (by kernel_rfl) (by kernel_rfl)
noncomputable def c159 : Nat × Ent := (159, .body Tryz.f159)
theorem b159 {c : Cx} : EntOk Tryz.prog c 159 (.body Tryz.f159) := body_ent Tryz.func159 (by kernel_rfl) (by kernel_rfl)
noncomputable def c193 : Nat × Ent := (193, .body Tryz.f193)
theorem b193 {c : Cx} : EntOk Tryz.prog c 193 (.body Tryz.f193) := body_ent Tryz.func193 (by kernel_rfl) (by kernel_rfl)
noncomputable def c194 : Nat × Ent := (194, .body Tryz.f194)
theorem b194 {c : Cx} : EntOk Tryz.prog c 194 (.body Tryz.f194) := body_ent Tryz.func194 (by kernel_rfl) (by kernel_rfl)
noncomputable def c195 : Nat × Ent := (195, .body Tryz.f195)
theorem b195 {c : Cx} : EntOk Tryz.prog c 195 (.body Tryz.f195) := body_ent Tryz.func195 (by kernel_rfl) (by kernel_rfl)
noncomputable def c196 : Nat × Ent := (196, .body Tryz.f196)
theorem b196 {c : Cx} : EntOk Tryz.prog c 196 (.body Tryz.f196) := body_ent Tryz.func196 (by kernel_rfl) (by kernel_rfl)
noncomputable def c197 : Nat × Ent := (197, .body Tryz.f197)
theorem b197 {c : Cx} : EntOk Tryz.prog c 197 (.body Tryz.f197) := body_ent Tryz.func197 (by kernel_rfl) (by kernel_rfl)
noncomputable def c198 : Nat × Ent := (198, .body Tryz.f198)
theorem b198 {c : Cx} : EntOk Tryz.prog c 198 (.body Tryz.f198) := body_ent Tryz.func198 (by kernel_rfl) (by kernel_rfl)
noncomputable def c199 : Nat × Ent := (199, .body Tryz.f199)
theorem b199 {c : Cx} : EntOk Tryz.prog c 199 (.body Tryz.f199) := body_ent Tryz.func199 (by kernel_rfl) (by kernel_rfl)
noncomputable def c201 : Nat × Ent := (201, .body Tryz.f201)
theorem b201 {c : Cx} : EntOk Tryz.prog c 201 (.body Tryz.f201) := body_ent Tryz.func201 (by kernel_rfl) (by kernel_rfl)
noncomputable def c202 : Nat × Ent := (202, .body Tryz.f202)
theorem b202 {c : Cx} : EntOk Tryz.prog c 202 (.body Tryz.f202) := body_ent Tryz.func202 (by kernel_rfl) (by kernel_rfl)
noncomputable def c203 : Nat × Ent := (203, .body Tryz.f203)
theorem b203 {c : Cx} : EntOk Tryz.prog c 203 (.body Tryz.f203) := body_ent Tryz.func203 (by kernel_rfl) (by kernel_rfl)
noncomputable def c204 : Nat × Ent := (204, .body Tryz.f204)
theorem b204 {c : Cx} : EntOk Tryz.prog c 204 (.body Tryz.f204) := body_ent Tryz.func204 (by kernel_rfl) (by kernel_rfl)
noncomputable def c205 : Nat × Ent := (205, .body Tryz.f205)
theorem b205 {c : Cx} : EntOk Tryz.prog c 205 (.body Tryz.f205) := body_ent Tryz.func205 (by kernel_rfl) (by kernel_rfl)
noncomputable def c206 : Nat × Ent := (206, .body Tryz.f206)
theorem b206 {c : Cx} : EntOk Tryz.prog c 206 (.body Tryz.f206) := body_ent Tryz.func206 (by kernel_rfl) (by kernel_rfl)
noncomputable def u28_200_cx : Cx := ⟨tyT, [(10, tabE S10A S10B u10_164.2 [u10_164]), (13, tabE S13A S13B u13_165.2 [u13_165]), c28, (58, tabE S58A S58B u58_151.2 [u58_151, u58_199]), c59, (86, tabE S86A S86B u86_166.2 [u86_166]), c87, c88, (89, tabE S89A S89B u89_183.2 [u89_183]), c90, c91, c118, (119, tabE S119A S119B u119_169.2 [u119_169]), c120, c121, (122, tabE S122A S122B u122_175.2 [u122_175]), (127, tabE S127A S127B u127_198.2 [u127_198]), c148, c154, c156, c157, c158, c159, c193, c194, c195, c196, c197, c198, c199, c201, c202, c203, c204, c205, c206, (238, tabE S238A S238B u238_170.2 [u238_170]), libHas, (242, tabE S242A S242B u242_171.2 [u242_171, u242_173]), c271], gsT, eqT, false, [1000000, 34]⟩
def u28_200 : ((Int × Int × (List ((Int × Bool × (Int × Int × Int × Int × Int) × Int × Int × Int × Int) × Bool × Int × (Int × Int × Int) × List Int)) × List (Int × Int × Int × List Int)) × Int × Int × Int × Int × Int × Int × ByteArray × Int × Int × Int × Int × Int × Int × Bool) × ((Int × Int × (List ((Int × Bool × (Int × Int × Int × Int × Int) × Int × Int × Int × Int) × Bool × Int × (Int × Int × Int) × List Int)) × List (Int × Int × Int × List Int)) × ((List (Int × Int × Int × Int)) × Bool × Int × Int × Int × List Int) × Int) := (((0, (0, ([((7, (false, ((1, (16777215, (4294967294, (8190, 127)))), (0, (0, (0, 0)))))), (false, (3600, ((0, (0, 0)), []))))], [(1, (1, (0, [])))]))), (1, (3600, (0, (0, (0, (0, ((⟨#[]⟩ : ByteArray), (0, (0, (0, (0, (0, (0, false)))))))))))))), ((3600, (1, ([((7, (false, ((1, (16777215, (4294967294, (8190, 127)))), (0, (0, (0, 0)))))), (false, (7200, ((1, (3600, 0)), []))))], [(1, (1, (0, [])))]))), (([(1, (7, (3600, 0)))], (false, (0, (0, (0, []))))), 0)))
def u28_200_F (i : Ip) : Prop :=
  (i.an 1 (i.cp 1 fun c1 hc1 => (i.tr ((((true && true) && (Nat.ble 1 c1)) && (true && true)) && (true && true)) (band (band (band (band rfl rfl) hc1) (band rfl rfl)) (band rfl rfl)) (i.tr ((((true && true) && (Nat.ble c1 c1)) && (true && (Nat.ble 0 c1))) && (true && true)) (band (band (band (band rfl rfl) (ble_same _)) (band rfl (ble_tr rfl hc1))) (band rfl rfl)) (i.tr ((((true && true) && (Nat.ble c1 c1)) && (true && (Nat.ble 1 c1))) && (true && true)) (band (band (band (band rfl rfl) (ble_same _)) (band rfl hc1)) (band rfl rfl)) (i.tr (((true && true) && (Nat.beq c1 c1)) && true) (band (band (band rfl rfl) (Nat.beq_refl _)) rfl) (i.tr ((((true && true) && (Nat.ble c1 c1)) && (true && (Nat.ble 1 c1))) && (true && true)) (band (band (band (band rfl rfl) (ble_same _)) (band rfl hc1)) (band rfl rfl)) (i.tr (true && (Nat.ble 1 c1)) (band rfl hc1) (i.cp 1 fun c3 hc3 => (i.cp 0 fun c4 hc4 => (i.tr ((((true && true) && (Nat.ble 0 c4)) && (true && true)) && (true && true)) (band (band (band (band rfl rfl) hc4) (band rfl rfl)) (band rfl rfl)) (i.cp 0 fun c5 hc5 => (i.tr ((((true && true) && (Nat.ble 0 c5)) && (true && true)) && (true && true)) (band (band (band (band rfl rfl) hc5) (band rfl rfl)) (band rfl rfl)) (i.cp 0 fun c6 hc6 => (i.tr ((((true && true) && (Nat.ble 0 c6)) && (true && true)) && (true && true)) (band (band (band (band rfl rfl) hc6) (band rfl rfl)) (band rfl rfl)) (i.cp 0 fun c7 hc7 => (i.an 1 (i.a2 (i.a2 (i.a2 (i.an 1 (i.cp 1 fun c8 hc8 => (i.a2 (i.an 1 (u28_200.2 = u28_200.2)) (u28_200.2 = u28_200.2)))) (i.cp 1 fun c8 hc8 => (i.a2 (i.an 1 (u28_200.2 = u28_200.2)) (u28_200.2 = u28_200.2)))) (i.a2 (i.an 1 (i.cp 1 fun c8 hc8 => (i.a2 (i.an 1 (u28_200.2 = u28_200.2)) (u28_200.2 = u28_200.2)))) (i.an 1 (i.cp 1 fun c8 hc8 => (i.a2 (i.an 1 (u28_200.2 = u28_200.2)) (u28_200.2 = u28_200.2)))))) (i.a2 (i.a2 (i.a2 (i.an 1 (i.cp 1 fun c8 hc8 => (i.a2 (i.an 1 (u28_200.2 = u28_200.2)) (u28_200.2 = u28_200.2)))) (i.cp 1 fun c8 hc8 => (i.a2 (i.an 1 (u28_200.2 = u28_200.2)) (u28_200.2 = u28_200.2)))) (i.a2 (i.an 1 (i.cp 1 fun c8 hc8 => (i.a2 (i.an 1 (u28_200.2 = u28_200.2)) (u28_200.2 = u28_200.2)))) (i.an 1 (i.cp 1 fun c8 hc8 => (i.a2 (i.an 1 (u28_200.2 = u28_200.2)) (u28_200.2 = u28_200.2)))))) (i.a2 (i.an 1 (i.cp 1 fun c8 hc8 => (i.a2 (i.an 1 (u28_200.2 = u28_200.2)) (u28_200.2 = u28_200.2)))) (i.a2 (i.an 1 (i.cp 1 fun c8 hc8 => (i.a2 (i.an 1 (u28_200.2 = u28_200.2)) (u28_200.2 = u28_200.2)))) (i.a2 (i.an 1 (i.cp 1 fun c8 hc8 => (i.a2 (i.an 1 (u28_200.2 = u28_200.2)) (u28_200.2 = u28_200.2)))) (i.cp 1 fun c8 hc8 => (i.a2 (i.an 1 (u28_200.2 = u28_200.2)) (u28_200.2 = u28_200.2)))))))))))))))))))))))))
theorem u28_200_t : acall u28_200_cx okT lpT 400 (.fn 28 [] []) (RT.shape S28A u28_200.1) [] (leafK S28B u28_200.2) = u28_200_F ipT := by kernel_rfl
theorem u28_200_r : u28_200_F ipT := by
  unfold u28_200_F
  refine MI.run (A := (u28_200.2 = u28_200.2)) ?_ rfl
  repeat' (first | intro _ | with_reducible constructor)
theorem u28_200_at : At Tryz.prog gsT 28 S28A S28B u28_200 := fo (c := u28_200_cx) rfl rfl (Fns_assoc ⟨tab_ok ⟨u10_164_at, trivial⟩, tab_ok ⟨u13_165_at, trivial⟩, b28, tab_ok ⟨u58_151_at, u58_199_at, trivial⟩, b59, tab_ok ⟨u86_166_at, trivial⟩, b87, b88, tab_ok ⟨u89_183_at, trivial⟩, b90, b91, b118, tab_ok ⟨u119_169_at, trivial⟩, b120, b121, tab_ok ⟨u122_175_at, trivial⟩, tab_ok ⟨u127_198_at, trivial⟩, b148, b154, b156, b157, b158, b159, b193, b194, b195, b196, b197, b198, b199, b201, b202, b203, b204, b205, b206, tab_ok ⟨u238_170_at, trivial⟩, libHas_ok, tab_ok ⟨u242_171_at, u242_173_at, trivial⟩, b271, trivial⟩) (n := 400) (lp_ok) (enters Tryz.func28 (by kernel_rfl) rfl) (fun y => ⟨_, rfl⟩) fun x y h => at_eq (Q := fun x y => acall u28_200_cx okT lpT 400 (.fn 28 [] []) (RT.shape S28A x) [] (leafK S28B y)) (Eq.mpr u28_200_t u28_200_r) h
noncomputable def u10_201_cx : Cx := ⟨tyT, [c10, (36, tabE S36A S36B u36_5.2 [u36_5]), (37, tabE S37A S37B u37_155.2 [u37_155]), (38, tabE S38A S38B u38_197.2 [u38_197]), (39, tabE S39A S39B u39_163.2 [u39_163]), c40, c41, c70], gsT, eqT, false, [1000000, 34]⟩
def u10_201 : (Int × Int × (List ((Int × Bool × (Int × Int × Int × Int × Int) × Int × Int × Int × Int) × Bool × Int × (Int × Int × Int) × List Int)) × List (Int × Int × Int × List Int)) × (Int) := ((3600, (1, ([((7, (false, ((1, (16777215, (4294967294, (8190, 127)))), (0, (0, (0, 0)))))), (false, (7200, ((1, (3600, 0)), []))))], [(1, (1, (0, [])))]))), 0)
def u10_201_F (i : Ip) : Prop :=
  (i.a2 (i.a2 (i.a2 (i.an 1 (u10_201.2 = u10_201.2)) (i.a2 (i.an 1 (u10_201.2 = u10_201.2)) (i.a2 (u10_201.2 = u10_201.2) (i.an 1 (u10_201.2 = u10_201.2))))) (i.a2 (i.a2 (i.an 1 (u10_201.2 = u10_201.2)) (i.a2 (i.an 1 (u10_201.2 = u10_201.2)) (i.a2 (u10_201.2 = u10_201.2) (i.an 1 (u10_201.2 = u10_201.2))))) (i.a2 (i.a2 (i.an 1 (u10_201.2 = u10_201.2)) (i.a2 (i.an 1 (u10_201.2 = u10_201.2)) (u10_201.2 = u10_201.2))) (i.a2 (i.a2 (u10_201.2 = u10_201.2) (i.an 1 (u10_201.2 = u10_201.2))) (i.a2 (i.a2 (u10_201.2 = u10_201.2) (i.an 1 (u10_201.2 = u10_201.2))) (i.a2 (i.an 1 (u10_201.2 = u10_201.2)) (i.a2 (i.an 1 (u10_201.2 = u10_201.2)) (u10_201.2 = u10_201.2)))))))) (i.a2 (i.a2 (i.a2 (i.an 1 (u10_201.2 = u10_201.2)) (i.a2 (i.an 1 (u10_201.2 = u10_201.2)) (i.a2 (u10_201.2 = u10_201.2) (i.an 1 (u10_201.2 = u10_201.2))))) (i.a2 (i.a2 (i.an 1 (u10_201.2 = u10_201.2)) (i.a2 (i.a2 (i.an 1 (u10_201.2 = u10_201.2)) (u10_201.2 = u10_201.2)) (i.an 1 (u10_201.2 = u10_201.2)))) (i.a2 (i.a2 (i.a2 (i.an 1 (u10_201.2 = u10_201.2)) (i.a2 (i.an 1 (u10_201.2 = u10_201.2)) (i.a2 (u10_201.2 = u10_201.2) (i.an 1 (u10_201.2 = u10_201.2))))) (i.a2 (i.a2 (i.an 1 (u10_201.2 = u10_201.2)) (u10_201.2 = u10_201.2)) (i.a2 (i.a2 (u10_201.2 = u10_201.2) (i.an 1 (u10_201.2 = u10_201.2))) (u10_201.2 = u10_201.2)))) (i.a2 (i.a2 (u10_201.2 = u10_201.2) (i.an 1 (u10_201.2 = u10_201.2))) (i.a2 (i.an 1 (u10_201.2 = u10_201.2)) (i.a2 (i.a2 (u10_201.2 = u10_201.2) (i.an 1 (u10_201.2 = u10_201.2))) (u10_201.2 = u10_201.2))))))) (i.a2 (i.a2 (i.a2 (i.an 1 (u10_201.2 = u10_201.2)) (i.a2 (i.an 1 (u10_201.2 = u10_201.2)) (i.a2 (u10_201.2 = u10_201.2) (i.an 1 (u10_201.2 = u10_201.2))))) (i.a2 (i.a2 (i.an 1 (u10_201.2 = u10_201.2)) (i.a2 (i.a2 (i.an 1 (u10_201.2 = u10_201.2)) (u10_201.2 = u10_201.2)) (i.an 1 (u10_201.2 = u10_201.2)))) (i.a2 (i.a2 (i.a2 (i.an 1 (u10_201.2 = u10_201.2)) (i.a2 (i.an 1 (u10_201.2 = u10_201.2)) (i.a2 (u10_201.2 = u10_201.2) (i.an 1 (u10_201.2 = u10_201.2))))) (i.a2 (i.a2 (i.an 1 (u10_201.2 = u10_201.2)) (u10_201.2 = u10_201.2)) (i.a2 (i.a2 (u10_201.2 = u10_201.2) (i.an 1 (u10_201.2 = u10_201.2))) (u10_201.2 = u10_201.2)))) (i.a2 (i.a2 (u10_201.2 = u10_201.2) (i.an 1 (u10_201.2 = u10_201.2))) (i.a2 (i.an 1 (u10_201.2 = u10_201.2)) (i.a2 (i.a2 (u10_201.2 = u10_201.2) (i.an 1 (u10_201.2 = u10_201.2))) (u10_201.2 = u10_201.2))))))) (i.a2 (i.a2 (i.a2 (i.a2 (i.an 1 (u10_201.2 = u10_201.2)) (i.a2 (i.an 1 (u10_201.2 = u10_201.2)) (i.a2 (u10_201.2 = u10_201.2) (i.an 1 (u10_201.2 = u10_201.2))))) (i.a2 (i.a2 (i.an 1 (u10_201.2 = u10_201.2)) (i.a2 (i.an 1 (u10_201.2 = u10_201.2)) (i.a2 (u10_201.2 = u10_201.2) (i.an 1 (u10_201.2 = u10_201.2))))) (i.a2 (i.a2 (i.an 1 (u10_201.2 = u10_201.2)) (i.a2 (i.an 1 (u10_201.2 = u10_201.2)) (u10_201.2 = u10_201.2))) (i.a2 (i.a2 (u10_201.2 = u10_201.2) (i.an 1 (u10_201.2 = u10_201.2))) (i.a2 (i.a2 (u10_201.2 = u10_201.2) (i.an 1 (u10_201.2 = u10_201.2))) (i.a2 (i.an 1 (u10_201.2 = u10_201.2)) (i.a2 (i.an 1 (u10_201.2 = u10_201.2)) (u10_201.2 = u10_201.2)))))))) (i.a2 (i.a2 (i.a2 (i.an 1 (u10_201.2 = u10_201.2)) (i.a2 (i.an 1 (u10_201.2 = u10_201.2)) (i.a2 (u10_201.2 = u10_201.2) (i.an 1 (u10_201.2 = u10_201.2))))) (i.a2 (i.a2 (i.an 1 (u10_201.2 = u10_201.2)) (u10_201.2 = u10_201.2)) (i.a2 (i.a2 (u10_201.2 = u10_201.2) (i.an 1 (u10_201.2 = u10_201.2))) (u10_201.2 = u10_201.2)))) (i.a2 (i.a2 (i.a2 (i.an 1 (u10_201.2 = u10_201.2)) (i.a2 (i.an 1 (u10_201.2 = u10_201.2)) (i.a2 (u10_201.2 = u10_201.2) (i.an 1 (u10_201.2 = u10_201.2))))) (i.a2 (i.a2 (i.an 1 (u10_201.2 = u10_201.2)) (u10_201.2 = u10_201.2)) (i.a2 (i.a2 (u10_201.2 = u10_201.2) (i.an 1 (u10_201.2 = u10_201.2))) (u10_201.2 = u10_201.2)))) (i.a2 (i.a2 (i.a2 (u10_201.2 = u10_201.2) (i.an 1 (u10_201.2 = u10_201.2))) (i.a2 (i.a2 (u10_201.2 = u10_201.2) (i.an 1 (u10_201.2 = u10_201.2))) (i.a2 (i.an 1 (u10_201.2 = u10_201.2)) (i.a2 (i.an 1 (u10_201.2 = u10_201.2)) (u10_201.2 = u10_201.2))))) (i.a2 (i.a2 (i.a2 (u10_201.2 = u10_201.2) (i.an 1 (u10_201.2 = u10_201.2))) (u10_201.2 = u10_201.2)) (i.a2 (i.a2 (u10_201.2 = u10_201.2) (i.an 1 (u10_201.2 = u10_201.2))) (u10_201.2 = u10_201.2))))))) (i.a2 (i.a2 (i.a2 (u10_201.2 = u10_201.2) (i.an 1 (u10_201.2 = u10_201.2))) (i.a2 (i.a2 (u10_201.2 = u10_201.2) (i.an 1 (u10_201.2 = u10_201.2))) (i.a2 (i.an 1 (u10_201.2 = u10_201.2)) (i.a2 (i.an 1 (u10_201.2 = u10_201.2)) (u10_201.2 = u10_201.2))))) (i.a2 (i.a2 (i.a2 (u10_201.2 = u10_201.2) (i.an 1 (u10_201.2 = u10_201.2))) (i.a2 (i.an 1 (u10_201.2 = u10_201.2)) (i.a2 (i.a2 (u10_201.2 = u10_201.2) (i.an 1 (u10_201.2 = u10_201.2))) (u10_201.2 = u10_201.2)))) (i.a2 (i.a2 (i.a2 (u10_201.2 = u10_201.2) (i.an 1 (u10_201.2 = u10_201.2))) (i.a2 (i.an 1 (u10_201.2 = u10_201.2)) (i.a2 (i.a2 (u10_201.2 = u10_201.2) (i.an 1 (u10_201.2 = u10_201.2))) (u10_201.2 = u10_201.2)))) (i.a2 (i.a2 (i.a2 (u10_201.2 = u10_201.2) (i.an 1 (u10_201.2 = u10_201.2))) (i.a2 (i.a2 (u10_201.2 = u10_201.2) (i.an 1 (u10_201.2 = u10_201.2))) (i.a2 (i.an 1 (u10_201.2 = u10_201.2)) (i.a2 (i.an 1 (u10_201.2 = u10_201.2)) (u10_201.2 = u10_201.2))))) (i.a2 (i.a2 (i.a2 (u10_201.2 = u10_201.2) (i.an 1 (u10_201.2 = u10_201.2))) (u10_201.2 = u10_201.2)) (i.a2 (i.a2 (u10_201.2 = u10_201.2) (i.an 1 (u10_201.2 = u10_201.2))) (u10_201.2 = u10_201.2)))))))))))
theorem u10_201_t : acall u10_201_cx okT lpT 400 (.fn 10 [] []) (RT.shape S10A u10_201.1) [] (leafK S10B u10_201.2) = u10_201_F ipT := by kernel_rfl
theorem u10_201_r : u10_201_F ipT := by
  unfold u10_201_F
  refine MI.run (A := (u10_201.2 = u10_201.2)) ?_ rfl
  repeat' (first | intro _ | with_reducible constructor)
theorem u10_201_at : At Tryz.prog gsT 10 S10A S10B u10_201 := fo (c := u10_201_cx) rfl rfl (Fns_assoc ⟨b10, tab_ok ⟨u36_5_at, trivial⟩, tab_ok ⟨u37_155_at, trivial⟩, tab_ok ⟨u38_197_at, trivial⟩, tab_ok ⟨u39_163_at, trivial⟩, b40, b41, b70, trivial⟩) (n := 400) (lp_ok) (enters Tryz.func10 (by kernel_rfl) rfl) (fun y => ⟨_, rfl⟩) fun x y h => at_eq (Q := fun x y => acall u10_201_cx okT lpT 400 (.fn 10 [] []) (RT.shape S10A x) [] (leafK S10B y)) (Eq.mpr u10_201_t u10_201_r) h
noncomputable def u68_202_cx : Cx := ⟨tyT, [c68], gsT, eqT, false, [1000000, 34]⟩
def u68_202 : (Int) × (Bool) := (2, true)
theorem u68_202_t : acall u68_202_cx okT lpT 400 (.fn 68 [] []) (RT.shape S68A u68_202.1) [] (leafK S68B u68_202.2) = (u68_202.2 = u68_202.2) := by kernel_rfl
theorem u68_202_at : At Tryz.prog gsT 68 S68A S68B u68_202 := fo (c := u68_202_cx) rfl rfl (Fns_assoc ⟨b68, trivial⟩) (n := 400) (lp_ok) (enters Tryz.func68 (by kernel_rfl) rfl) (fun y => ⟨_, rfl⟩) fun x y h => at_eq (Q := fun x y => acall u68_202_cx okT lpT 400 (.fn 68 [] []) (RT.shape S68A x) [] (leafK S68B y)) (Eq.mpr u68_202_t rfl) h
noncomputable def u74_203_cx : Cx := ⟨tyT, [c74], gsT, eqT, false, [1000000, 34]⟩
def u74_203 : ((Int × Int × Int × List Int × Int × Bool) × Int) × (Int) := (((1, (0, (0, ([], (0, false))))), 2), 3)
theorem u74_203_t : acall u74_203_cx okT lpT 400 (.fn 74 [] []) (RT.shape S74A u74_203.1) [] (leafK S74B u74_203.2) = (u74_203.2 = u74_203.2) := by kernel_rfl
theorem u74_203_at : At Tryz.prog gsT 74 S74A S74B u74_203 := fo (c := u74_203_cx) rfl rfl (Fns_assoc ⟨b74, trivial⟩) (n := 400) (lp_ok) (enters Tryz.func74 (by kernel_rfl) rfl) (fun y => ⟨_, rfl⟩) fun x y h => at_eq (Q := fun x y => acall u74_203_cx okT lpT 400 (.fn 74 [] []) (RT.shape S74A x) [] (leafK S74B y)) (Eq.mpr u74_203_t rfl) h
noncomputable def u45_204_cx : Cx := ⟨tyT, [(39, tabE S39A S39B u39_2.2 [u39_2]), c45, (67, tabE S67A S67B u67_7.2 [u67_7]), (68, tabE S68A S68B u68_202.2 [u68_202]), (73, tabE S73A S73B u73_9.2 [u73_9]), (74, tabE S74A S74B u74_203.2 [u74_203])], gsT, eqT, false, [1000000, 34]⟩
def u45_204 : ((List (Int × Int × Int × List Int)) × Int × Int) × (Int × Int) := (([], (1, 2)), (3, 0))
theorem u45_204_t : acall u45_204_cx okT lpT 400 (.fn 45 [] []) (RT.shape S45A u45_204.1) [] (leafK S45B u45_204.2) = (u45_204.2 = u45_204.2) := by kernel_rfl
theorem u45_204_at : At Tryz.prog gsT 45 S45A S45B u45_204 := fo (c := u45_204_cx) rfl rfl (Fns_assoc ⟨tab_ok ⟨u39_2_at, trivial⟩, b45, tab_ok ⟨u67_7_at, trivial⟩, tab_ok ⟨u68_202_at, trivial⟩, tab_ok ⟨u73_9_at, trivial⟩, tab_ok ⟨u74_203_at, trivial⟩, trivial⟩) (n := 400) (lp_ok) (enters Tryz.func45 (by kernel_rfl) rfl) (fun y => ⟨_, rfl⟩) fun x y h => at_eq (Q := fun x y => acall u45_204_cx okT lpT 400 (.fn 45 [] []) (RT.shape S45A x) [] (leafK S45B y)) (Eq.mpr u45_204_t rfl) h
noncomputable def u14_205_cx : Cx := ⟨tyT, [c14, (36, tabE S36A S36B u36_14.2 [u36_14])], gsT, eqT, false, [1000000, 34]⟩
def u14_205 : (Int × Int × ByteArray × Int × Int × Int × Int × Int) × (Int) := ((5, (0, ((⟨#[]⟩ : ByteArray), (0, (0, (0, (0, 0))))))), 0)
theorem u14_205_t : acall u14_205_cx okT lpT 400 (.fn 14 [] []) (RT.shape S14A u14_205.1) [] (leafK S14B u14_205.2) = (u14_205.2 = u14_205.2) := by kernel_rfl
theorem u14_205_at : At Tryz.prog gsT 14 S14A S14B u14_205 := fo (c := u14_205_cx) rfl rfl (Fns_assoc ⟨b14, tab_ok ⟨u36_14_at, trivial⟩, trivial⟩) (n := 400) (lp_ok) (enters Tryz.func14 (by kernel_rfl) rfl) (fun y => ⟨_, rfl⟩) fun x y h => at_eq (Q := fun x y => acall u14_205_cx okT lpT 400 (.fn 14 [] []) (RT.shape S14A x) [] (leafK S14B y)) (Eq.mpr u14_205_t rfl) h
noncomputable def u13_206_cx : Cx := ⟨tyT, [c13, (14, tabE S14A S14B u14_205.2 [u14_205]), (36, tabE S36A S36B u36_14.2 [u36_14]), (45, tabE S45A S45B u45_204.2 [u45_204])], gsT, eqT, false, [1000000, 34]⟩
def u13_206 : (Int × Int × Int × Int × Int × Int × ByteArray × Int × Int × Int × Int × Int × Int × Bool) × (Int) := ((2, (0, (1, (2, (5, (0, ((⟨#[]⟩ : ByteArray), (0, (0, (0, (0, (0, (0, false))))))))))))), 0)
def u13_206_F (i : Ip) : Prop :=
  (i.a2 (i.a2 (u13_206.2 = u13_206.2) (i.an 1 (u13_206.2 = u13_206.2))) (i.a2 (i.an 1 (u13_206.2 = u13_206.2)) (i.an 1 (u13_206.2 = u13_206.2))))
theorem u13_206_t : acall u13_206_cx okT lpT 400 (.fn 13 [] []) (RT.shape S13A u13_206.1) [] (leafK S13B u13_206.2) = u13_206_F ipT := by kernel_rfl
theorem u13_206_r : u13_206_F ipT := by
  unfold u13_206_F
  refine MI.run (A := (u13_206.2 = u13_206.2)) ?_ rfl
  repeat' (first | intro _ | with_reducible constructor)
theorem u13_206_at : At Tryz.prog gsT 13 S13A S13B u13_206 := fo (c := u13_206_cx) rfl rfl (Fns_assoc ⟨b13, tab_ok ⟨u14_205_at, trivial⟩, tab_ok ⟨u36_14_at, trivial⟩, tab_ok ⟨u45_204_at, trivial⟩, trivial⟩) (n := 400) (lp_ok) (enters Tryz.func13 (by kernel_rfl) rfl) (fun y => ⟨_, rfl⟩) fun x y h => at_eq (Q := fun x y => acall u13_206_cx okT lpT 400 (.fn 13 [] []) (RT.shape S13A x) [] (leafK S13B y)) (Eq.mpr u13_206_t u13_206_r) h
noncomputable def c112 : Nat × Ent := (112, .body Tryz.f112)
theorem b112 {c : Cx} : EntOk Tryz.prog c 112 (.body Tryz.f112) := body_ent Tryz.func112 (by kernel_rfl) (by kernel_rfl)
noncomputable def u73_207_cx : Cx := ⟨tyT, [c73, c111, c112, (113, tabE S113A S113B u113_146.2 [u113_146])], gsT, eqT, false, [1000000, 34]⟩
def u73_207 : ((List (Int × Int × Int × List Int)) × Int) × (Int × Int × Int × List Int × Int × Bool) := (([(1, (1, (0, [])))], 1), (1, (1, (0, ([], (0, true))))))
theorem u73_207_t : acall u73_207_cx okT lpT 400 (.fn 73 [] []) (RT.shape S73A u73_207.1) [] (leafK S73B u73_207.2) = (u73_207.2 = u73_207.2) := by kernel_rfl
theorem u73_207_at : At Tryz.prog gsT 73 S73A S73B u73_207 := fo (c := u73_207_cx) rfl rfl (Fns_assoc ⟨b73, b111, b112, tab_ok ⟨u113_146_at, trivial⟩, trivial⟩) (n := 400) (lp_ok) (enters Tryz.func73 (by kernel_rfl) rfl) (fun y => ⟨_, rfl⟩) fun x y h => at_eq (Q := fun x y => acall u73_207_cx okT lpT 400 (.fn 73 [] []) (RT.shape S73A x) [] (leafK S73B y)) (Eq.mpr u73_207_t rfl) h
noncomputable def u74_208_cx : Cx := ⟨tyT, [c74], gsT, eqT, false, [1000000, 34]⟩
def u74_208 : ((Int × Int × Int × List Int × Int × Bool) × Int) × (Int) := (((1, (1, (0, ([], (0, true))))), 2), 1)
theorem u74_208_t : acall u74_208_cx okT lpT 400 (.fn 74 [] []) (RT.shape S74A u74_208.1) [] (leafK S74B u74_208.2) = (u74_208.2 = u74_208.2) := by kernel_rfl
theorem u74_208_at : At Tryz.prog gsT 74 S74A S74B u74_208 := fo (c := u74_208_cx) rfl rfl (Fns_assoc ⟨b74, trivial⟩) (n := 400) (lp_ok) (enters Tryz.func74 (by kernel_rfl) rfl) (fun y => ⟨_, rfl⟩) fun x y h => at_eq (Q := fun x y => acall u74_208_cx okT lpT 400 (.fn 74 [] []) (RT.shape S74A x) [] (leafK S74B y)) (Eq.mpr u74_208_t rfl) h
noncomputable def u45_209_cx : Cx := ⟨tyT, [(39, tabE S39A S39B u39_163.2 [u39_163]), c45, (67, tabE S67A S67B u67_7.2 [u67_7]), (68, tabE S68A S68B u68_202.2 [u68_202]), (73, tabE S73A S73B u73_207.2 [u73_207]), (74, tabE S74A S74B u74_208.2 [u74_208])], gsT, eqT, false, [1000000, 34]⟩
def u45_209 : ((List (Int × Int × Int × List Int)) × Int × Int) × (Int × Int) := (([(1, (1, (0, [])))], (1, 2)), (1, 0))
theorem u45_209_t : acall u45_209_cx okT lpT 400 (.fn 45 [] []) (RT.shape S45A u45_209.1) [] (leafK S45B u45_209.2) = (u45_209.2 = u45_209.2) := by kernel_rfl
theorem u45_209_at : At Tryz.prog gsT 45 S45A S45B u45_209 := fo (c := u45_209_cx) rfl rfl (Fns_assoc ⟨tab_ok ⟨u39_163_at, trivial⟩, b45, tab_ok ⟨u67_7_at, trivial⟩, tab_ok ⟨u68_202_at, trivial⟩, tab_ok ⟨u73_207_at, trivial⟩, tab_ok ⟨u74_208_at, trivial⟩, trivial⟩) (n := 400) (lp_ok) (enters Tryz.func45 (by kernel_rfl) rfl) (fun y => ⟨_, rfl⟩) fun x y h => at_eq (Q := fun x y => acall u45_209_cx okT lpT 400 (.fn 45 [] []) (RT.shape S45A x) [] (leafK S45B y)) (Eq.mpr u45_209_t rfl) h
abbrev S132A : RT := (.one (.sl (.pr (.pr (.int .u32) (.pr .bool (.pr (.pr (.int .u64) (.pr (.int .u64) (.pr (.int .u64) (.pr (.int .u64) (.int .u64))))) (.pr (.int .i64) (.pr (.int .i64) (.pr (.int .i64) (.int .i64))))))) (.pr .bool (.pr (.int .i64) (.pr (.pr (.int .u64) (.pr (.int .i64) (.int .i64))) (.sl (.int .i64))))))))
abbrev S132B : RT := (.sl (.int .u32))
noncomputable def c132 : Nat × Ent := (132, .body Tryz.f132)
theorem b132 {c : Cx} : EntOk Tryz.prog c 132 (.body Tryz.f132) := body_ent Tryz.func132 (by kernel_rfl) (by kernel_rfl)
noncomputable def u132_210_cx : Cx := ⟨tyT, [(38, tabE S38A S38B u38_197.2 [u38_197]), c132], gsT, eqT, false, [1000000, 34]⟩
def u132_210 : (List ((Int × Bool × (Int × Int × Int × Int × Int) × Int × Int × Int × Int) × Bool × Int × (Int × Int × Int) × List Int)) × (List Int) := ([((7, (false, ((1, (16777215, (4294967294, (8190, 127)))), (0, (0, (0, 0)))))), (false, (7200, ((1, (3600, 0)), []))))], [7])
def u132_210_F (i : Ip) : Prop :=
  (i.cp 1 fun c1 hc1 => (u132_210.2 = u132_210.2))
theorem u132_210_t : acall u132_210_cx okT lpT 400 (.fn 132 [] []) (RT.shape S132A u132_210.1) [] (leafK S132B u132_210.2) = u132_210_F ipT := by kernel_rfl
theorem u132_210_r : u132_210_F ipT := by
  unfold u132_210_F
  refine MI.run (A := (u132_210.2 = u132_210.2)) ?_ rfl
  repeat' (first | intro _ | with_reducible constructor)
theorem u132_210_at : At Tryz.prog gsT 132 S132A S132B u132_210 := fo (c := u132_210_cx) rfl rfl (Fns_assoc ⟨tab_ok ⟨u38_197_at, trivial⟩, b132, trivial⟩) (n := 400) (lp_ok) (enters Tryz.func132 (by kernel_rfl) rfl) (fun y => ⟨_, rfl⟩) fun x y h => at_eq (Q := fun x y => acall u132_210_cx okT lpT 400 (.fn 132 [] []) (RT.shape S132A x) [] (leafK S132B y)) (Eq.mpr u132_210_t u132_210_r) h
noncomputable def u69_211_cx : Cx := ⟨tyT, [(66, tabE S66A S66B u66_143.2 [u66_143]), c69], gsT, eqT, false, [1000000, 34]⟩
def u69_211 : (Int × List Int) × (Int) := ((0, [7]), 0)
theorem u69_211_t : acall u69_211_cx okT lpT 400 (.fn 69 [] []) (RT.shape S69A u69_211.1) [] (leafK S69B u69_211.2) = (u69_211.2 = u69_211.2) := by kernel_rfl
theorem u69_211_at : At Tryz.prog gsT 69 S69A S69B u69_211 := fo (c := u69_211_cx) rfl rfl (Fns_assoc ⟨tab_ok ⟨u66_143_at, trivial⟩, b69, trivial⟩) (n := 400) (lp_ok) (enters Tryz.func69 (by kernel_rfl) rfl) (fun y => ⟨_, rfl⟩) fun x y h => at_eq (Q := fun x y => acall u69_211_cx okT lpT 400 (.fn 69 [] []) (RT.shape S69A x) [] (leafK S69B y)) (Eq.mpr u69_211_t rfl) h
noncomputable def u35_212_cx : Cx := ⟨tyT, [c35], gsT, eqT, false, [1000000, 34]⟩
def u35_212 : (List Int) × (List Int) := ([7], [7])
def u35_212_F (i : Ip) : Prop :=
  (i.cp 1 fun c1 hc1 => (i.tr (true && (true && (Nat.beq c1 c1))) (band rfl (band rfl (Nat.beq_refl _))) (u35_212.2 = u35_212.2)))
theorem u35_212_t : acall u35_212_cx okT lpT 400 (.fn 35 [] []) (RT.shape S35A u35_212.1) [] (leafK S35B u35_212.2) = u35_212_F ipT := by kernel_rfl
theorem u35_212_r : u35_212_F ipT := by
  unfold u35_212_F
  refine MI.run (A := (u35_212.2 = u35_212.2)) ?_ rfl
  repeat' (first | intro _ | with_reducible constructor)
theorem u35_212_at : At Tryz.prog gsT 35 S35A S35B u35_212 := fo (c := u35_212_cx) rfl rfl (Fns_assoc ⟨b35, trivial⟩) (n := 400) (lp_ok) (enters Tryz.func35 (by kernel_rfl) rfl) (fun y => ⟨_, rfl⟩) fun x y h => at_eq (Q := fun x y => acall u35_212_cx okT lpT 400 (.fn 35 [] []) (RT.shape S35A x) [] (leafK S35B y)) (Eq.mpr u35_212_t u35_212_r) h
noncomputable def u113_213_cx : Cx := ⟨tyT, [(35, tabE S35A S35B u35_212.2 [u35_212]), c113], gsT, eqT, false, [1000000, 34]⟩
def u113_213 : (Int × Int × Int × List Int) × (Int × Int × Int × List Int) := ((1, (2, (0, [7]))), (1, (2, (0, [7]))))
def u113_213_F (i : Ip) : Prop :=
  (i.cp 1 fun c1 hc1 => (u113_213.2 = u113_213.2))
theorem u113_213_t : acall u113_213_cx okT lpT 400 (.fn 113 [] []) (RT.shape S113A u113_213.1) [] (leafK S113B u113_213.2) = u113_213_F ipT := by kernel_rfl
theorem u113_213_r : u113_213_F ipT := by
  unfold u113_213_F
  refine MI.run (A := (u113_213.2 = u113_213.2)) ?_ rfl
  repeat' (first | intro _ | with_reducible constructor)
theorem u113_213_at : At Tryz.prog gsT 113 S113A S113B u113_213 := fo (c := u113_213_cx) rfl rfl (Fns_assoc ⟨tab_ok ⟨u35_212_at, trivial⟩, b113, trivial⟩) (n := 400) (lp_ok) (enters Tryz.func113 (by kernel_rfl) rfl) (fun y => ⟨_, rfl⟩) fun x y h => at_eq (Q := fun x y => acall u113_213_cx okT lpT 400 (.fn 113 [] []) (RT.shape S113A x) [] (leafK S113B y)) (Eq.mpr u113_213_t u113_213_r) h
noncomputable def u98_214_cx : Cx := ⟨tyT, [(45, tabE S45A S45B u45_209.2 [u45_209]), (69, tabE S69A S69B u69_211.2 [u69_211]), (73, tabE S73A S73B u73_207.2 [u73_207]), c98, (113, tabE S113A S113B u113_213.2 [u113_213])], gsT, eqT, false, [1000000, 34]⟩
def u98_214 : ((List (Int × Int × Int × List Int)) × Int × Int × Int × List Int) × ((List (Int × Int × Int × List Int)) × Int) := (([(1, (1, (0, [])))], (1, (2, (0, [7])))), ([(1, (2, (0, [7])))], 0))
def u98_214_F (i : Ip) : Prop :=
  (i.an 1 (i.cp 1 fun c1 hc1 => (i.tr (((true && true) && (Nat.beq c1 c1)) && true) (band (band (band rfl rfl) (Nat.beq_refl _)) rfl) (i.cp 1 fun c2 hc2 => (u98_214.2 = u98_214.2)))))
theorem u98_214_t : acall u98_214_cx okT lpT 400 (.fn 98 [] []) (RT.shape S98A u98_214.1) [] (leafK S98B u98_214.2) = u98_214_F ipT := by kernel_rfl
theorem u98_214_r : u98_214_F ipT := by
  unfold u98_214_F
  refine MI.run (A := (u98_214.2 = u98_214.2)) ?_ rfl
  repeat' (first | intro _ | with_reducible constructor)
theorem u98_214_at : At Tryz.prog gsT 98 S98A S98B u98_214 := fo (c := u98_214_cx) rfl rfl (Fns_assoc ⟨tab_ok ⟨u45_209_at, trivial⟩, tab_ok ⟨u69_211_at, trivial⟩, tab_ok ⟨u73_207_at, trivial⟩, b98, tab_ok ⟨u113_213_at, trivial⟩, trivial⟩) (n := 400) (lp_ok) (enters Tryz.func98 (by kernel_rfl) rfl) (fun y => ⟨_, rfl⟩) fun x y h => at_eq (Q := fun x y => acall u98_214_cx okT lpT 400 (.fn 98 [] []) (RT.shape S98A x) [] (leafK S98B y)) (Eq.mpr u98_214_t u98_214_r) h
noncomputable def u85_215_cx : Cx := ⟨tyT, [c85], gsT, eqT, false, [1000000, 34]⟩
def u85_215 : (List (Int × Int × Int × List Int)) × (List (Int × Int × Int × List Int)) := ([(1, (2, (0, [7])))], [(1, (2, (0, [7])))])
def u85_215_F (i : Ip) : Prop :=
  (i.cp 1 fun c1 hc1 => (i.tr (true && (true && (Nat.beq c1 c1))) (band rfl (band rfl (Nat.beq_refl _))) (u85_215.2 = u85_215.2)))
theorem u85_215_t : acall u85_215_cx okT lpT 400 (.fn 85 [] []) (RT.shape S85A u85_215.1) [] (leafK S85B u85_215.2) = u85_215_F ipT := by kernel_rfl
theorem u85_215_r : u85_215_F ipT := by
  unfold u85_215_F
  refine MI.run (A := (u85_215.2 = u85_215.2)) ?_ rfl
  repeat' (first | intro _ | with_reducible constructor)
theorem u85_215_at : At Tryz.prog gsT 85 S85A S85B u85_215 := fo (c := u85_215_cx) rfl rfl (Fns_assoc ⟨b85, trivial⟩) (n := 400) (lp_ok) (enters Tryz.func85 (by kernel_rfl) rfl) (fun y => ⟨_, rfl⟩) fun x y h => at_eq (Q := fun x y => acall u85_215_cx okT lpT 400 (.fn 85 [] []) (RT.shape S85A x) [] (leafK S85B y)) (Eq.mpr u85_215_t u85_215_r) h
noncomputable def u58_216_cx : Cx := ⟨tyT, [(34, tabE S34A S34B u34_149.2 [u34_149]), (35, tabE S35A S35B u35_212.2 [u35_212]), c58, (84, tabE S84A S84B u84_195.2 [u84_195]), (85, tabE S85A S85B u85_215.2 [u85_215])], gsT, eqT, false, [1000000, 34]⟩
def u58_216 : (Int × Int × (List ((Int × Bool × (Int × Int × Int × Int × Int) × Int × Int × Int × Int) × Bool × Int × (Int × Int × Int) × List Int)) × List (Int × Int × Int × List Int)) × (Int × Int × (List ((Int × Bool × (Int × Int × Int × Int × Int) × Int × Int × Int × Int) × Bool × Int × (Int × Int × Int) × List Int)) × List (Int × Int × Int × List Int)) := ((3600, (1, ([((7, (false, ((1, (16777215, (4294967294, (8190, 127)))), (0, (0, (0, 0)))))), (false, (7200, ((1, (3600, 0)), []))))], [(1, (2, (0, [7])))]))), (3600, (1, ([((7, (false, ((1, (16777215, (4294967294, (8190, 127)))), (0, (0, (0, 0)))))), (false, (7200, ((1, (3600, 0)), []))))], [(1, (2, (0, [7])))]))))
def u58_216_F (i : Ip) : Prop :=
  (i.cp 1 fun c1 hc1 => (i.cp 0 fun c2 hc2 => (i.cp 1 fun c3 hc3 => (i.cp 1 fun c4 hc4 => (u58_216.2 = u58_216.2)))))
theorem u58_216_t : acall u58_216_cx okT lpT 400 (.fn 58 [] []) (RT.shape S58A u58_216.1) [] (leafK S58B u58_216.2) = u58_216_F ipT := by kernel_rfl
theorem u58_216_r : u58_216_F ipT := by
  unfold u58_216_F
  refine MI.run (A := (u58_216.2 = u58_216.2)) ?_ rfl
  repeat' (first | intro _ | with_reducible constructor)
theorem u58_216_at : At Tryz.prog gsT 58 S58A S58B u58_216 := fo (c := u58_216_cx) rfl rfl (Fns_assoc ⟨tab_ok ⟨u34_149_at, trivial⟩, tab_ok ⟨u35_212_at, trivial⟩, b58, tab_ok ⟨u84_195_at, trivial⟩, tab_ok ⟨u85_215_at, trivial⟩, trivial⟩) (n := 400) (lp_ok) (enters Tryz.func58 (by kernel_rfl) rfl) (fun y => ⟨_, rfl⟩) fun x y h => at_eq (Q := fun x y => acall u58_216_cx okT lpT 400 (.fn 58 [] []) (RT.shape S58A x) [] (leafK S58B y)) (Eq.mpr u58_216_t u58_216_r) h
noncomputable def c97 : Nat × Ent := (97, .body Tryz.f97)
theorem b97 {c : Cx} : EntOk Tryz.prog c 97 (.body Tryz.f97) := body_ent Tryz.func97 (by kernel_rfl) (by kernel_rfl)
noncomputable def u28_217_cx : Cx := ⟨tyT, [(10, tabE S10A S10B u10_201.2 [u10_201]), (13, tabE S13A S13B u13_206.2 [u13_206]), c28, (45, tabE S45A S45B u45_209.2 [u45_209]), (58, tabE S58A S58B u58_199.2 [u58_199, u58_216]), c60, c97, (98, tabE S98A S98B u98_214.2 [u98_214]), (132, tabE S132A S132B u132_210.2 [u132_210])], gsT, eqT, false, [1000000, 34]⟩
def u28_217 : ((Int × Int × (List ((Int × Bool × (Int × Int × Int × Int × Int) × Int × Int × Int × Int) × Bool × Int × (Int × Int × Int) × List Int)) × List (Int × Int × Int × List Int)) × Int × Int × Int × Int × Int × Int × ByteArray × Int × Int × Int × Int × Int × Int × Bool) × ((Int × Int × (List ((Int × Bool × (Int × Int × Int × Int × Int) × Int × Int × Int × Int) × Bool × Int × (Int × Int × Int) × List Int)) × List (Int × Int × Int × List Int)) × ((List (Int × Int × Int × Int)) × Bool × Int × Int × Int × List Int) × Int) := (((3600, (1, ([((7, (false, ((1, (16777215, (4294967294, (8190, 127)))), (0, (0, (0, 0)))))), (false, (7200, ((1, (3600, 0)), []))))], [(1, (1, (0, [])))]))), (2, (0, (1, (2, (5, (0, ((⟨#[]⟩ : ByteArray), (0, (0, (0, (0, (0, (0, false)))))))))))))), ((3600, (1, ([((7, (false, ((1, (16777215, (4294967294, (8190, 127)))), (0, (0, (0, 0)))))), (false, (7200, ((1, (3600, 0)), []))))], [(1, (2, (0, [7])))]))), (([], (true, (1, (2, (0, [7]))))), 0)))
def u28_217_F (i : Ip) : Prop :=
  (i.a2 (i.an 1 (u28_217.2 = u28_217.2)) (u28_217.2 = u28_217.2))
theorem u28_217_t : acall u28_217_cx okT lpT 400 (.fn 28 [] []) (RT.shape S28A u28_217.1) [] (leafK S28B u28_217.2) = u28_217_F ipT := by kernel_rfl
theorem u28_217_r : u28_217_F ipT := by
  unfold u28_217_F
  refine MI.run (A := (u28_217.2 = u28_217.2)) ?_ rfl
  repeat' (first | intro _ | with_reducible constructor)
theorem u28_217_at : At Tryz.prog gsT 28 S28A S28B u28_217 := fo (c := u28_217_cx) rfl rfl (Fns_assoc ⟨tab_ok ⟨u10_201_at, trivial⟩, tab_ok ⟨u13_206_at, trivial⟩, b28, tab_ok ⟨u45_209_at, trivial⟩, tab_ok ⟨u58_199_at, u58_216_at, trivial⟩, b60, b97, tab_ok ⟨u98_214_at, trivial⟩, tab_ok ⟨u132_210_at, trivial⟩, trivial⟩) (n := 400) (lp_ok) (enters Tryz.func28 (by kernel_rfl) rfl) (fun y => ⟨_, rfl⟩) fun x y h => at_eq (Q := fun x y => acall u28_217_cx okT lpT 400 (.fn 28 [] []) (RT.shape S28A x) [] (leafK S28B y)) (Eq.mpr u28_217_t u28_217_r) h
abbrev S30A : RT := (.cons (.sl (.int .u32)) (.one (.sl (.int .u32))))
abbrev S30B : RT := .bool
noncomputable def c30 : Nat × Ent := (30, .body Tryz.f30)
theorem b30 {c : Cx} : EntOk Tryz.prog c 30 (.body Tryz.f30) := body_ent Tryz.func30 (by kernel_rfl) (by kernel_rfl)
noncomputable def u30_218_cx : Cx := ⟨tyT, [c30], gsT, eqT, false, [1000000, 34]⟩
def u30_218 : (List Int × List Int) × (Bool) := (([7], [7]), true)
theorem u30_218_t : acall u30_218_cx okT lpT 400 (.fn 30 [] []) (RT.shape S30A u30_218.1) [] (leafK S30B u30_218.2) = (u30_218.2 = u30_218.2) := by kernel_rfl
theorem u30_218_at : At Tryz.prog gsT 30 S30A S30B u30_218 := fo (c := u30_218_cx) rfl rfl (Fns_assoc ⟨b30, trivial⟩) (n := 400) (lp_ok) (enters Tryz.func30 (by kernel_rfl) rfl) (fun y => ⟨_, rfl⟩) fun x y h => at_eq (Q := fun x y => acall u30_218_cx okT lpT 400 (.fn 30 [] []) (RT.shape S30A x) [] (leafK S30B y)) (Eq.mpr u30_218_t rfl) h
noncomputable def c6 : Nat × Ent := (6, .body Tryz.f6)
theorem b6 {c : Cx} : EntOk Tryz.prog c 6 (.body Tryz.f6) := body_ent Tryz.func6 (by kernel_rfl) (by kernel_rfl)
noncomputable def c29 : Nat × Ent := (29, .body Tryz.f29)
theorem b29 {c : Cx} : EntOk Tryz.prog c 29 (.body Tryz.f29) := body_ent Tryz.func29 (by kernel_rfl) (by kernel_rfl)
noncomputable def q6_cx : Cx := ⟨tyT, [c6, (28, tabE S28A S28B u28_200.2 [u28_200, u28_152, u28_217]), c29, (30, tabE S30A S30B u30_218.2 [u30_218])], gsT, eqT, false, [1000000, 34]⟩
abbrev A6 : RT := .one .none
abbrev B6 : RT := .bool
def curfewlaw14_wakes_F (i : Ip) (y : Bool) : Prop :=
  (i.a2 (i.a2 (i.an 2 (i.an 1 (true = y))) (i.a2 (i.a2 (i.an 1 (true = y)) (true = y)) (i.a2 (i.an 1 (true = y)) (true = y)))) (i.a2 (i.an 2 (i.an 1 (true = y))) (i.a2 (i.a2 (i.a2 (i.an 1 (true = y)) (true = y)) (i.a2 (i.an 1 (true = y)) (i.an 1 (true = y)))) (i.a2 (i.a2 (i.an 1 (true = y)) (true = y)) (i.a2 (i.an 1 (true = y)) (i.an 1 (true = y)))))))
def curfewlaw14_wakes_R (y : Bool) : Prop := (true = y)
theorem q6_t (y : Bool) : acall q6_cx okT lpT 400 (.fn 6 [] []) [] [] (leafK B6 y) = curfewlaw14_wakes_F ipT y := by kernel_rfl
theorem q6_r (y : Bool) : curfewlaw14_wakes_R y → curfewlaw14_wakes_F ipT y := by
  unfold curfewlaw14_wakes_R curfewlaw14_wakes_F
  refine MI.run ?_
  repeat' (first | intro _ | with_reducible constructor)
abbrev r6 (x : A6.den) (y : B6.den) : Prop := curfewlaw14_wakes_R y
theorem curfewlaw14_wakes_ok : FxOk Tryz.prog gsT 6 A6 B6 r6 := fo (c := q6_cx) rfl rfl (Fns_assoc ⟨b6, tab_ok ⟨u28_200_at, u28_152_at, u28_217_at, trivial⟩, b29, tab_ok ⟨u30_218_at, trivial⟩, trivial⟩) (n := 400) (lp_ok) (enters Tryz.func6 (by kernel_rfl) rfl) (fun y => ⟨_, rfl⟩) fun x y h => Eq.mpr (q6_t y) (q6_r y h)
def e6 : Nat × Ent := (6, .fx A6 B6 r6)
noncomputable def c23 : Nat × Ent := (23, .body Tryz.f23)
theorem b23 {c : Cx} : EntOk Tryz.prog c 23 (.body Tryz.f23) := body_ent Tryz.func23 (by kernel_rfl) (by kernel_rfl)
abbrev A23 : RT := (.cons (.sl (.pr (.int .u64) (.pr (.int .u32) (.pr (.int .i64) (.int .i64))))) (.one (.sl (.pr (.int .u64) (.pr (.int .u32) (.pr (.int .i64) (.int .i64)))))))
abbrev B23 : RT := .bool
noncomputable def q23_cx : Cx := ⟨tyT, [c23], gsT, eqT, false, []⟩
noncomputable def q23_0_body : Code := subC [1, 1, 0, 1, 0, 0] (bodyOf Tryz.f23)
abbrev slices_Equal__api_Launch_api_Launch_l0_Z : Type := (List (Int × Int × Int × Int)) × (List (Int × Int × Int × Int)) × Int × Int
abbrev slices_Equal__api_Launch_api_Launch_l0_Y : Type := (Unit) ⊕ (Unit)
noncomputable def q23_0_k : LK := ⟨0, ⟨[(0, .sl (.pr (.int .u64) (.pr (.int .u32) (.pr (.int .i64) (.int .i64)))) 0), (1, .sl (.pr (.int .u64) (.pr (.int .u32) (.pr (.int .i64) (.int .i64)))) 1), (12, .w 2), (13, .w 3)], [], []⟩, [.sl (.pr (.int .u64) (.pr (.int .u32) (.pr (.int .i64) (.int .i64)))), .sl (.pr (.int .u64) (.pr (.int .u32) (.pr (.int .i64) (.int .i64)))), .int .i64, .int .i64], [], [], [], [⟨.ret, ⟨[(4, .lb false)], [], []⟩, [], [], none⟩, ⟨(.exit 0), ⟨[], [], []⟩, [], [], none⟩]⟩
def slices_Equal__api_Launch_api_Launch_l0_F (i : Ip) (l : slices_Equal__api_Launch_api_Launch_l0_Z → slices_Equal__api_Launch_api_Launch_l0_Y → Prop) (z1x0 z1x1 : List (Int × Int × Int × Int)) (z1x2 z1x3 : Int) (y2_ : slices_Equal__api_Launch_api_Launch_l0_Y) : Prop :=
  (br (decide (z1x3 < z1x2)) (i.rq ((decide (0 ≤ z1x3)) && (decide (z1x3 < (((List.length z1x0) : Nat) : Int)))) (i.rq ((decide (0 ≤ z1x3)) && (decide (z1x3 < (((List.length z1x1) : Nat) : Int)))) (br (!((((List.getD z1x0 (Int.toNat z1x3) (0, (0, (0, 0)))).1) == ((List.getD z1x1 (Int.toNat z1x3) (0, (0, (0, 0)))).1)) && (((((List.getD z1x0 (Int.toNat z1x3) (0, (0, (0, 0)))).2).1) == (((List.getD z1x1 (Int.toNat z1x3) (0, (0, (0, 0)))).2).1)) && ((((((List.getD z1x0 (Int.toNat z1x3) (0, (0, (0, 0)))).2).2).1) == ((((List.getD z1x1 (Int.toNat z1x3) (0, (0, (0, 0)))).2).2).1)) && ((((((List.getD z1x0 (Int.toNat z1x3) (0, (0, (0, 0)))).2).2).2) == ((((List.getD z1x1 (Int.toNat z1x3) (0, (0, (0, 0)))).2).2).2)) && true))))) ((Sum.inl ()) = y2_) (l (z1x0, z1x1, z1x2, (IntKind.wrap .i64 (z1x3 + 1))) y2_)))) ((Sum.inr ()) = y2_))
def slices_Equal__api_Launch_api_Launch_l0 : Nat → slices_Equal__api_Launch_api_Launch_l0_Z → slices_Equal__api_Launch_api_Launch_l0_Y → Prop
  | 0, _, _ => False
  | k + 1, (z1x0, z1x1, z1x2, z1x3), y2_ => (br (decide (z1x3 < z1x2)) (req ((decide (0 ≤ z1x3)) && (decide (z1x3 < (((List.length z1x0) : Nat) : Int)))) (req ((decide (0 ≤ z1x3)) && (decide (z1x3 < (((List.length z1x1) : Nat) : Int)))) (br (!((((List.getD z1x0 (Int.toNat z1x3) (0, (0, (0, 0)))).1) == ((List.getD z1x1 (Int.toNat z1x3) (0, (0, (0, 0)))).1)) && (((((List.getD z1x0 (Int.toNat z1x3) (0, (0, (0, 0)))).2).1) == (((List.getD z1x1 (Int.toNat z1x3) (0, (0, (0, 0)))).2).1)) && ((((((List.getD z1x0 (Int.toNat z1x3) (0, (0, (0, 0)))).2).2).1) == ((((List.getD z1x1 (Int.toNat z1x3) (0, (0, (0, 0)))).2).2).1)) && ((((((List.getD z1x0 (Int.toNat z1x3) (0, (0, (0, 0)))).2).2).2) == ((((List.getD z1x1 (Int.toNat z1x3) (0, (0, (0, 0)))).2).2).2)) && true))))) ((Sum.inl ()) = y2_) (slices_Equal__api_Launch_api_Launch_l0 k (z1x0, z1x1, z1x2, (IntKind.wrap .i64 (z1x3 + 1))) y2_)))) ((Sum.inr ()) = y2_))
def slices_Equal__api_Launch_api_Launch_l0_L (z : slices_Equal__api_Launch_api_Launch_l0_Z) (y : slices_Equal__api_Launch_api_Launch_l0_Y) : Prop := ∃ k, slices_Equal__api_Launch_api_Launch_l0 k z y
noncomputable def q23_0_lp : Lp := .auto none q23_0_body (loopK q23_0_k fun z y => ∃ k, slices_Equal__api_Launch_api_Launch_l0 k z y)
noncomputable def q23_lp : Nat → FuncId → Nat → Nat → Lp := lpTab [(23, 4, 0, 0, q23_0_lp)]
theorem q23_0_t (n k : Nat) (z1x0 z1x1 : List (Int × Int × Int × Int)) (z1x2 z1x3 : Int) (y2_ : slices_Equal__api_Launch_api_Launch_l0_Y) : rnd q23_cx okT q23_lp (n + 0) 23 none q23_0_body q23_0_k (slices_Equal__api_Launch_api_Launch_l0 k) (z1x0, z1x1, z1x2, z1x3) () () y2_ = slices_Equal__api_Launch_api_Launch_l0_F ipT (fun z y => slices_Equal__api_Launch_api_Launch_l0 k z y) z1x0 z1x1 z1x2 z1x3 y2_ := by kernel_rfl
theorem q23_0_r (k : Nat) (z1x0 z1x1 : List (Int × Int × Int × Int)) (z1x2 z1x3 : Int) (y2_ : slices_Equal__api_Launch_api_Launch_l0_Y) : slices_Equal__api_Launch_api_Launch_l0 (k + 1) (z1x0, z1x1, z1x2, z1x3) y2_ → slices_Equal__api_Launch_api_Launch_l0_F ipT (fun z y => slices_Equal__api_Launch_api_Launch_l0 k z y) z1x0 z1x1 z1x2 z1x3 y2_ := by
  unfold slices_Equal__api_Launch_api_Launch_l0_F
  intro h; simp only [slices_Equal__api_Launch_api_Launch_l0] at h; revert h
  refine MI.run ?_
  repeat' (first | intro _ | with_reducible constructor)
theorem q23_0_ok (n : Nat) : Owed q23_cx okT 23 q23_lp (n + 0) q23_0_lp := owed_rnd (lk := q23_0_k) (l := slices_Equal__api_Launch_api_Launch_l0) (fun z y h => h) fun k z q c y h => Eq.mpr (q23_0_t n k z.1 z.2.1 z.2.2.1 z.2.2.2 y) (q23_0_r k z.1 z.2.1 z.2.2.1 z.2.2.2 y h)
def slices_Equal__api_Launch_api_Launch_F (i : Ip) (a0 a1 : List (Int × Int × Int × Int)) (y : Bool) : Prop :=
  (br ((((List.length a0) : Nat) : Int) != (((List.length a1) : Nat) : Int)) (false = y) (i.lo none q23_0_body (∃ y4 : slices_Equal__api_Launch_api_Launch_l0_Y, slices_Equal__api_Launch_api_Launch_l0_L (a0, a1, (((List.length a0) : Nat) : Int), 0) y4 ∧ sume (fun y4 => (false = y)) (fun y4 => (true = y)) y4)))
def slices_Equal__api_Launch_api_Launch_R (a0 a1 : List (Int × Int × Int × Int)) (y : Bool) : Prop :=
  (br ((((List.length a0) : Nat) : Int) != (((List.length a1) : Nat) : Int)) (false = y) (∃ y4 : slices_Equal__api_Launch_api_Launch_l0_Y, slices_Equal__api_Launch_api_Launch_l0_L (a0, a1, (((List.length a0) : Nat) : Int), 0) y4 ∧ sume (fun y4 => (false = y)) (fun y4 => (true = y)) y4))
theorem q23_t (a0 a1 : List (Int × Int × Int × Int)) (y : Bool) : acall q23_cx okT q23_lp 60 (.fn 23 [] []) [(V.sl (.pr (.int .u64) (.pr (.int .u32) (.pr (.int .i64) (.int .i64)))) a0 none), (V.sl (.pr (.int .u64) (.pr (.int .u32) (.pr (.int .i64) (.int .i64)))) a1 none)] [] (leafK B23 y) = slices_Equal__api_Launch_api_Launch_F ipT a0 a1 y := by kernel_rfl
theorem q23_r (a0 a1 : List (Int × Int × Int × Int)) (y : Bool) : slices_Equal__api_Launch_api_Launch_R a0 a1 y → slices_Equal__api_Launch_api_Launch_F ipT a0 a1 y := by
  unfold slices_Equal__api_Launch_api_Launch_R slices_Equal__api_Launch_api_Launch_F
  refine MI.run ?_
  repeat' (first | intro _ | with_reducible constructor)
abbrev r23 (x : A23.den) (y : B23.den) : Prop := slices_Equal__api_Launch_api_Launch_R (x.1) (x.2) y
theorem slices_Equal__api_Launch_api_Launch_ok : FxOk Tryz.prog gsT 23 A23 B23 r23 := fo (c := q23_cx) rfl rfl (Fns_assoc ⟨b23, trivial⟩) (lp := q23_lp) (n := 60) (LpOk_tab ⟨q23_0_ok, trivial⟩) (enters Tryz.func23 (by kernel_rfl) rfl) (fun y => ⟨_, rfl⟩) fun x y h => Eq.mpr (q23_t _ _ y) (q23_r _ _ y h)
def e23 : Nat × Ent := (23, .fx A23 B23 r23)
abbrev A30 : RT := (.cons (.sl (.int .u32)) (.one (.sl (.int .u32))))
abbrev B30 : RT := .bool
noncomputable def q30_cx : Cx := ⟨tyT, [c30], gsT, eqT, false, []⟩
noncomputable def q30_0_body : Code := subC [1, 1, 0, 1, 0, 0] (bodyOf Tryz.f30)
abbrev slices_Equal__uint32_uint32_l0_Z : Type := List Int × List Int × Int × Int
abbrev slices_Equal__uint32_uint32_l0_Y : Type := (Unit) ⊕ (Unit)
noncomputable def q30_0_k : LK := ⟨0, ⟨[(0, .sl (.int .u32) 0), (1, .sl (.int .u32) 1), (12, .w 2), (13, .w 3)], [], []⟩, [.sl (.int .u32), .sl (.int .u32), .int .i64, .int .i64], [], [], [], [⟨.ret, ⟨[(4, .lb false)], [], []⟩, [], [], none⟩, ⟨(.exit 0), ⟨[], [], []⟩, [], [], none⟩]⟩
def slices_Equal__uint32_uint32_l0_F (i : Ip) (l : slices_Equal__uint32_uint32_l0_Z → slices_Equal__uint32_uint32_l0_Y → Prop) (z1x0 z1x1 : List Int) (z1x2 z1x3 : Int) (y2_ : slices_Equal__uint32_uint32_l0_Y) : Prop :=
  (br (decide (z1x3 < z1x2)) (i.rq ((decide (0 ≤ z1x3)) && (decide (z1x3 < (((List.length z1x0) : Nat) : Int)))) (i.rq ((decide (0 ≤ z1x3)) && (decide (z1x3 < (((List.length z1x1) : Nat) : Int)))) (br ((List.getD z1x0 (Int.toNat z1x3) 0) != (List.getD z1x1 (Int.toNat z1x3) 0)) ((Sum.inl ()) = y2_) (l (z1x0, z1x1, z1x2, (IntKind.wrap .i64 (z1x3 + 1))) y2_)))) ((Sum.inr ()) = y2_))
def slices_Equal__uint32_uint32_l0 : Nat → slices_Equal__uint32_uint32_l0_Z → slices_Equal__uint32_uint32_l0_Y → Prop
  | 0, _, _ => False
  | k + 1, (z1x0, z1x1, z1x2, z1x3), y2_ => (br (decide (z1x3 < z1x2)) (req ((decide (0 ≤ z1x3)) && (decide (z1x3 < (((List.length z1x0) : Nat) : Int)))) (req ((decide (0 ≤ z1x3)) && (decide (z1x3 < (((List.length z1x1) : Nat) : Int)))) (br ((List.getD z1x0 (Int.toNat z1x3) 0) != (List.getD z1x1 (Int.toNat z1x3) 0)) ((Sum.inl ()) = y2_) (slices_Equal__uint32_uint32_l0 k (z1x0, z1x1, z1x2, (IntKind.wrap .i64 (z1x3 + 1))) y2_)))) ((Sum.inr ()) = y2_))
def slices_Equal__uint32_uint32_l0_L (z : slices_Equal__uint32_uint32_l0_Z) (y : slices_Equal__uint32_uint32_l0_Y) : Prop := ∃ k, slices_Equal__uint32_uint32_l0 k z y
noncomputable def q30_0_lp : Lp := .auto none q30_0_body (loopK q30_0_k fun z y => ∃ k, slices_Equal__uint32_uint32_l0 k z y)
noncomputable def q30_lp : Nat → FuncId → Nat → Nat → Lp := lpTab [(30, 4, 0, 0, q30_0_lp)]
theorem q30_0_t (n k : Nat) (z1x0 z1x1 : List Int) (z1x2 z1x3 : Int) (y2_ : slices_Equal__uint32_uint32_l0_Y) : rnd q30_cx okT q30_lp (n + 0) 30 none q30_0_body q30_0_k (slices_Equal__uint32_uint32_l0 k) (z1x0, z1x1, z1x2, z1x3) () () y2_ = slices_Equal__uint32_uint32_l0_F ipT (fun z y => slices_Equal__uint32_uint32_l0 k z y) z1x0 z1x1 z1x2 z1x3 y2_ := by kernel_rfl
theorem q30_0_r (k : Nat) (z1x0 z1x1 : List Int) (z1x2 z1x3 : Int) (y2_ : slices_Equal__uint32_uint32_l0_Y) : slices_Equal__uint32_uint32_l0 (k + 1) (z1x0, z1x1, z1x2, z1x3) y2_ → slices_Equal__uint32_uint32_l0_F ipT (fun z y => slices_Equal__uint32_uint32_l0 k z y) z1x0 z1x1 z1x2 z1x3 y2_ := by
  unfold slices_Equal__uint32_uint32_l0_F
  intro h; simp only [slices_Equal__uint32_uint32_l0] at h; revert h
  refine MI.run ?_
  repeat' (first | intro _ | with_reducible constructor)
theorem q30_0_ok (n : Nat) : Owed q30_cx okT 30 q30_lp (n + 0) q30_0_lp := owed_rnd (lk := q30_0_k) (l := slices_Equal__uint32_uint32_l0) (fun z y h => h) fun k z q c y h => Eq.mpr (q30_0_t n k z.1 z.2.1 z.2.2.1 z.2.2.2 y) (q30_0_r k z.1 z.2.1 z.2.2.1 z.2.2.2 y h)
def slices_Equal__uint32_uint32_F (i : Ip) (a0 a1 : List Int) (y : Bool) : Prop :=
  (br ((((List.length a0) : Nat) : Int) != (((List.length a1) : Nat) : Int)) (false = y) (i.lo none q30_0_body (∃ y4 : slices_Equal__uint32_uint32_l0_Y, slices_Equal__uint32_uint32_l0_L (a0, a1, (((List.length a0) : Nat) : Int), 0) y4 ∧ sume (fun y4 => (false = y)) (fun y4 => (true = y)) y4)))
def slices_Equal__uint32_uint32_R (a0 a1 : List Int) (y : Bool) : Prop :=
  (br ((((List.length a0) : Nat) : Int) != (((List.length a1) : Nat) : Int)) (false = y) (∃ y4 : slices_Equal__uint32_uint32_l0_Y, slices_Equal__uint32_uint32_l0_L (a0, a1, (((List.length a0) : Nat) : Int), 0) y4 ∧ sume (fun y4 => (false = y)) (fun y4 => (true = y)) y4))
theorem q30_t (a0 a1 : List Int) (y : Bool) : acall q30_cx okT q30_lp 60 (.fn 30 [] []) [(V.sl (.int .u32) a0 none), (V.sl (.int .u32) a1 none)] [] (leafK B30 y) = slices_Equal__uint32_uint32_F ipT a0 a1 y := by kernel_rfl
theorem q30_r (a0 a1 : List Int) (y : Bool) : slices_Equal__uint32_uint32_R a0 a1 y → slices_Equal__uint32_uint32_F ipT a0 a1 y := by
  unfold slices_Equal__uint32_uint32_R slices_Equal__uint32_uint32_F
  refine MI.run ?_
  repeat' (first | intro _ | with_reducible constructor)
abbrev r30 (x : A30.den) (y : B30.den) : Prop := slices_Equal__uint32_uint32_R (x.1) (x.2) y
theorem slices_Equal__uint32_uint32_ok : FxOk Tryz.prog gsT 30 A30 B30 r30 := fo (c := q30_cx) rfl rfl (Fns_assoc ⟨b30, trivial⟩) (lp := q30_lp) (n := 60) (LpOk_tab ⟨q30_0_ok, trivial⟩) (enters Tryz.func30 (by kernel_rfl) rfl) (fun y => ⟨_, rfl⟩) fun x y h => Eq.mpr (q30_t _ _ y) (q30_r _ _ y h)
def e30 : Nat × Ent := (30, .fx A30 B30 r30)
noncomputable def c31 : Nat × Ent := (31, .body Tryz.f31)
theorem b31 {c : Cx} : EntOk Tryz.prog c 31 (.body Tryz.f31) := body_ent Tryz.func31 (by kernel_rfl) (by kernel_rfl)
abbrev A31 : RT := (.cons (.agg (.cons (.int .i64) (.one (.sl (.int .u32))))) (.one (.agg (.cons (.int .i64) (.one (.sl (.int .u32)))))))
abbrev B31 : RT := .bool
noncomputable def q31_cx : Cx := ⟨tyT, [e30, c31], gsT, eqT, false, []⟩
def session_SameReply_R (a0 : Int) (a1 : List Int) (a2 : Int) (a3 : List Int) (y : Bool) : Prop :=
  (br (a0 == a2) (∃ y1 : Bool, (slices_Equal__uint32_uint32_R a1 a3 y1) ∧ (y1 = y)) (false = y))
theorem q31_t (a0 : Int) (a1 : List Int) (a2 : Int) (a3 : List Int) (y : Bool) : acall q31_cx okT lpT 60 (.fn 31 [] []) [(V.agg [(vi a0), (V.sl (.int .u32) a1 none)]), (V.agg [(vi a2), (V.sl (.int .u32) a3 none)])] [] (leafK B31 y) = session_SameReply_R a0 a1 a2 a3 y := by kernel_rfl
abbrev r31 (x : A31.den) (y : B31.den) : Prop := session_SameReply_R (x.1.1) (x.1.2) (x.2.1) (x.2.2) y
theorem session_SameReply_ok : FxOk Tryz.prog gsT 31 A31 B31 r31 := fo (c := q31_cx) rfl rfl (Fns_assoc ⟨slices_Equal__uint32_uint32_ok, b31, trivial⟩) (n := 60) (lp_ok) (enters Tryz.func31 (by kernel_rfl) rfl) (fun y => ⟨_, rfl⟩) fun x y h => Eq.mpr (q31_t _ _ _ _ y) h
def e31 : Nat × Ent := (31, .fx A31 B31 r31)
noncomputable def c7 : Nat × Ent := (7, .body Tryz.f7)
theorem b7 {c : Cx} : EntOk Tryz.prog c 7 (.body Tryz.f7) := body_ent Tryz.func7 (by kernel_rfl) (by kernel_rfl)
abbrev A7 : RT := (.cons (.agg (.cons (.sl (.pr (.int .u64) (.pr (.int .u32) (.pr (.int .i64) (.int .i64))))) (.cons .bool (.cons (.int .i64) (.cons (.int .u64) (.cons (.int .i64) (.one (.sl (.int .u32))))))))) (.one (.agg (.cons (.sl (.pr (.int .u64) (.pr (.int .u32) (.pr (.int .i64) (.int .i64))))) (.cons .bool (.cons (.int .i64) (.cons (.int .u64) (.cons (.int .i64) (.one (.sl (.int .u32)))))))))))
abbrev B7 : RT := .bool
noncomputable def q7_cx : Cx := ⟨tyT, [c7, e23, e31], gsT, eqT, false, []⟩
def sched_SameEffect_R (a0 : List (Int × Int × Int × Int)) (a1 : Bool) (a2 a3 a4 : Int) (a5 : List Int) (a6 : List (Int × Int × Int × Int)) (a7 : Bool) (a8 a9 a10 : Int) (a11 : List Int) (y : Bool) : Prop :=
  (br (a1 == a7) (br (a2 == a8) (br (a3 == a9) (∃ y1 : Bool, (session_SameReply_R a4 a5 a10 a11 y1) ∧ (br y1 (∃ y2 : Bool, (slices_Equal__api_Launch_api_Launch_R a0 a6 y2) ∧ (y2 = y)) (false = y))) (false = y)) (false = y)) (false = y))
theorem q7_t (a0 : List (Int × Int × Int × Int)) (a1 : Bool) (a2 a3 a4 : Int) (a5 : List Int) (a6 : List (Int × Int × Int × Int)) (a7 : Bool) (a8 a9 a10 : Int) (a11 : List Int) (y : Bool) : acall q7_cx okT lpT 60 (.fn 7 [] []) [(V.agg [(V.sl (.pr (.int .u64) (.pr (.int .u32) (.pr (.int .i64) (.int .i64)))) a0 none), (vb a1), (vi a2), (vu a3), (vi a4), (V.sl (.int .u32) a5 none)]), (V.agg [(V.sl (.pr (.int .u64) (.pr (.int .u32) (.pr (.int .i64) (.int .i64)))) a6 none), (vb a7), (vi a8), (vu a9), (vi a10), (V.sl (.int .u32) a11 none)])] [] (leafK B7 y) = sched_SameEffect_R a0 a1 a2 a3 a4 a5 a6 a7 a8 a9 a10 a11 y := by kernel_rfl
abbrev r7 (x : A7.den) (y : B7.den) : Prop := sched_SameEffect_R (x.1.1) (x.1.2.1) (x.1.2.2.1) (x.1.2.2.2.1) (x.1.2.2.2.2.1) (x.1.2.2.2.2.2) (x.2.1) (x.2.2.1) (x.2.2.2.1) (x.2.2.2.2.1) (x.2.2.2.2.2.1) (x.2.2.2.2.2.2) y
theorem sched_SameEffect_ok : FxOk Tryz.prog gsT 7 A7 B7 r7 := fo (c := q7_cx) rfl rfl (Fns_assoc ⟨b7, slices_Equal__api_Launch_api_Launch_ok, session_SameReply_ok, trivial⟩) (n := 60) (lp_ok) (enters Tryz.func7 (by kernel_rfl) rfl) (fun y => ⟨_, rfl⟩) fun x y h => Eq.mpr (q7_t _ _ _ _ _ _ _ _ _ _ _ _ y) h
def e7 : Nat × Ent := (7, .fx A7 B7 r7)
noncomputable def c32 : Nat × Ent := (32, .body Tryz.f32)
theorem b32 {c : Cx} : EntOk Tryz.prog c 32 (.body Tryz.f32) := body_ent Tryz.func32 (by kernel_rfl) (by kernel_rfl)
abbrev A32 : RT := (.cons (.agg (.cons (.int .i64) (.one (.sl (.int .u32))))) (.one (.agg (.cons (.int .i64) (.one (.sl (.int .u32)))))))
abbrev B32 : RT := .bool
noncomputable def q32_cx : Cx := ⟨tyT, [c32], gsT, eqT, false, []⟩
noncomputable def q32_0_body : Code := subC [1, 1, 0, 1, 0, 0] (bodyOf Tryz.f32)
abbrev curfewref12_SameReply_l0_Z : Type := Int × List Int × List Int × Int × Int
abbrev curfewref12_SameReply_l0_Y : Type := (Unit) ⊕ (Unit)
noncomputable def q32_0_k : LK := ⟨2, ⟨[(3, .ptr 1 0), (22, .sl (.int .u32) 2), (23, .w 3), (24, .w 4)], [.dead, .cells [.w 0, .sl (.int .u32) 1]], []⟩, [.int .i64, .sl (.int .u32), .sl (.int .u32), .int .i64, .int .i64], [], [], [], [⟨.ret, ⟨[(4, .lb false)], [.dead, .dead], []⟩, [], [], none⟩, ⟨(.exit 0), ⟨[], [.dead, .dead], []⟩, [], [], none⟩]⟩
def curfewref12_SameReply_l0_F (i : Ip) (l : curfewref12_SameReply_l0_Z → curfewref12_SameReply_l0_Y → Prop) (z1x0 : Int) (z1x1 z1x2 : List Int) (z1x3 z1x4 : Int) (y2_ : curfewref12_SameReply_l0_Y) : Prop :=
  (br (decide (z1x4 < z1x3)) (i.rq ((decide (0 ≤ z1x4)) && (decide (z1x4 < (((List.length z1x2) : Nat) : Int)))) (i.rq ((decide (0 ≤ z1x4)) && (decide (z1x4 < (((List.length z1x1) : Nat) : Int)))) (br ((List.getD z1x2 (Int.toNat z1x4) 0) != (List.getD z1x1 (Int.toNat z1x4) 0)) ((Sum.inl ()) = y2_) (l (z1x0, z1x1, z1x2, z1x3, (IntKind.wrap .i64 (z1x4 + 1))) y2_)))) ((Sum.inr ()) = y2_))
def curfewref12_SameReply_l0 : Nat → curfewref12_SameReply_l0_Z → curfewref12_SameReply_l0_Y → Prop
  | 0, _, _ => False
  | k + 1, (z1x0, z1x1, z1x2, z1x3, z1x4), y2_ => (br (decide (z1x4 < z1x3)) (req ((decide (0 ≤ z1x4)) && (decide (z1x4 < (((List.length z1x2) : Nat) : Int)))) (req ((decide (0 ≤ z1x4)) && (decide (z1x4 < (((List.length z1x1) : Nat) : Int)))) (br ((List.getD z1x2 (Int.toNat z1x4) 0) != (List.getD z1x1 (Int.toNat z1x4) 0)) ((Sum.inl ()) = y2_) (curfewref12_SameReply_l0 k (z1x0, z1x1, z1x2, z1x3, (IntKind.wrap .i64 (z1x4 + 1))) y2_)))) ((Sum.inr ()) = y2_))
def curfewref12_SameReply_l0_L (z : curfewref12_SameReply_l0_Z) (y : curfewref12_SameReply_l0_Y) : Prop := ∃ k, curfewref12_SameReply_l0 k z y
noncomputable def q32_0_lp : Lp := .auto none q32_0_body (loopK q32_0_k fun z y => ∃ k, curfewref12_SameReply_l0 k z y)
noncomputable def q32_lp : Nat → FuncId → Nat → Nat → Lp := lpTab [(32, 4, 2, 0, q32_0_lp)]
theorem q32_0_t (n k : Nat) (z1x0 : Int) (z1x1 z1x2 : List Int) (z1x3 z1x4 : Int) (y2_ : curfewref12_SameReply_l0_Y) : rnd q32_cx okT q32_lp (n + 0) 32 none q32_0_body q32_0_k (curfewref12_SameReply_l0 k) (z1x0, z1x1, z1x2, z1x3, z1x4) () () y2_ = curfewref12_SameReply_l0_F ipT (fun z y => curfewref12_SameReply_l0 k z y) z1x0 z1x1 z1x2 z1x3 z1x4 y2_ := by kernel_rfl
theorem q32_0_r (k : Nat) (z1x0 : Int) (z1x1 z1x2 : List Int) (z1x3 z1x4 : Int) (y2_ : curfewref12_SameReply_l0_Y) : curfewref12_SameReply_l0 (k + 1) (z1x0, z1x1, z1x2, z1x3, z1x4) y2_ → curfewref12_SameReply_l0_F ipT (fun z y => curfewref12_SameReply_l0 k z y) z1x0 z1x1 z1x2 z1x3 z1x4 y2_ := by
  unfold curfewref12_SameReply_l0_F
  intro h; simp only [curfewref12_SameReply_l0] at h; revert h
  refine MI.run ?_
  repeat' (first | intro _ | with_reducible constructor)
theorem q32_0_ok (n : Nat) : Owed q32_cx okT 32 q32_lp (n + 0) q32_0_lp := owed_rnd (lk := q32_0_k) (l := curfewref12_SameReply_l0) (fun z y h => h) fun k z q c y h => Eq.mpr (q32_0_t n k z.1 z.2.1 z.2.2.1 z.2.2.2.1 z.2.2.2.2 y) (q32_0_r k z.1 z.2.1 z.2.2.1 z.2.2.2.1 z.2.2.2.2 y h)
def curfewref12_SameReply_F (i : Ip) (a0 : Int) (a1 : List Int) (a2 : Int) (a3 : List Int) (y : Bool) : Prop :=
  (br (a0 != a2) (false = y) (br ((((List.length a1) : Nat) : Int) != (((List.length a3) : Nat) : Int)) (false = y) (i.lo none q32_0_body (∃ y4 : curfewref12_SameReply_l0_Y, curfewref12_SameReply_l0_L (a2, a3, a1, (((List.length a1) : Nat) : Int), 0) y4 ∧ sume (fun y4 => (false = y)) (fun y4 => (true = y)) y4))))
def curfewref12_SameReply_R (a0 : Int) (a1 : List Int) (a2 : Int) (a3 : List Int) (y : Bool) : Prop :=
  (br (a0 != a2) (false = y) (br ((((List.length a1) : Nat) : Int) != (((List.length a3) : Nat) : Int)) (false = y) (∃ y4 : curfewref12_SameReply_l0_Y, curfewref12_SameReply_l0_L (a2, a3, a1, (((List.length a1) : Nat) : Int), 0) y4 ∧ sume (fun y4 => (false = y)) (fun y4 => (true = y)) y4)))
theorem q32_t (a0 : Int) (a1 : List Int) (a2 : Int) (a3 : List Int) (y : Bool) : acall q32_cx okT q32_lp 60 (.fn 32 [] []) [(V.agg [(vi a0), (V.sl (.int .u32) a1 none)]), (V.agg [(vi a2), (V.sl (.int .u32) a3 none)])] [] (leafK B32 y) = curfewref12_SameReply_F ipT a0 a1 a2 a3 y := by kernel_rfl
theorem q32_r (a0 : Int) (a1 : List Int) (a2 : Int) (a3 : List Int) (y : Bool) : curfewref12_SameReply_R a0 a1 a2 a3 y → curfewref12_SameReply_F ipT a0 a1 a2 a3 y := by
  unfold curfewref12_SameReply_R curfewref12_SameReply_F
  refine MI.run ?_
  repeat' (first | intro _ | with_reducible constructor)
abbrev r32 (x : A32.den) (y : B32.den) : Prop := curfewref12_SameReply_R (x.1.1) (x.1.2) (x.2.1) (x.2.2) y
theorem curfewref12_SameReply_ok : FxOk Tryz.prog gsT 32 A32 B32 r32 := fo (c := q32_cx) rfl rfl (Fns_assoc ⟨b32, trivial⟩) (lp := q32_lp) (n := 60) (LpOk_tab ⟨q32_0_ok, trivial⟩) (enters Tryz.func32 (by kernel_rfl) rfl) (fun y => ⟨_, rfl⟩) fun x y h => Eq.mpr (q32_t _ _ _ _ y) (q32_r _ _ _ _ y h)
def e32 : Nat × Ent := (32, .fx A32 B32 r32)
noncomputable def c33 : Nat × Ent := (33, .body Tryz.f33)
theorem b33 {c : Cx} : EntOk Tryz.prog c 33 (.body Tryz.f33) := body_ent Tryz.func33 (by kernel_rfl) (by kernel_rfl)
abbrev A33 : RT := (.cons (.sl (.pr (.int .u64) (.pr (.int .u32) (.pr (.int .i64) (.int .i64))))) (.one (.sl (.pr (.int .u64) (.pr (.int .u32) (.pr (.int .i64) (.int .i64)))))))
abbrev B33 : RT := .bool
noncomputable def q33_cx : Cx := ⟨tyT, [c33], gsT, eqT, false, []⟩
noncomputable def q33_0_body : Code := subC [1, 1, 0, 1, 0, 0] (bodyOf Tryz.f33)
abbrev curfewref14_SameLaunches_l0_Z : Type := (List (Int × Int × Int × Int)) × (List (Int × Int × Int × Int)) × Int × Int
abbrev curfewref14_SameLaunches_l0_Y : Type := (Unit) ⊕ (Unit)
noncomputable def q33_0_k : LK := ⟨0, ⟨[(1, .sl (.pr (.int .u64) (.pr (.int .u32) (.pr (.int .i64) (.int .i64)))) 0), (12, .sl (.pr (.int .u64) (.pr (.int .u32) (.pr (.int .i64) (.int .i64)))) 1), (13, .w 2), (14, .w 3)], [], []⟩, [.sl (.pr (.int .u64) (.pr (.int .u32) (.pr (.int .i64) (.int .i64)))), .sl (.pr (.int .u64) (.pr (.int .u32) (.pr (.int .i64) (.int .i64)))), .int .i64, .int .i64], [], [], [], [⟨.ret, ⟨[(4, .lb false)], [], []⟩, [], [], none⟩, ⟨(.exit 0), ⟨[], [], []⟩, [], [], none⟩]⟩
def curfewref14_SameLaunches_l0_F (i : Ip) (l : curfewref14_SameLaunches_l0_Z → curfewref14_SameLaunches_l0_Y → Prop) (z1x0 z1x1 : List (Int × Int × Int × Int)) (z1x2 z1x3 : Int) (y2_ : curfewref14_SameLaunches_l0_Y) : Prop :=
  (br (decide (z1x3 < z1x2)) (i.rq ((decide (0 ≤ z1x3)) && (decide (z1x3 < (((List.length z1x1) : Nat) : Int)))) (i.rq ((decide (0 ≤ z1x3)) && (decide (z1x3 < (((List.length z1x0) : Nat) : Int)))) (br (!((((List.getD z1x1 (Int.toNat z1x3) (0, (0, (0, 0)))).1) == ((List.getD z1x0 (Int.toNat z1x3) (0, (0, (0, 0)))).1)) && (((((List.getD z1x1 (Int.toNat z1x3) (0, (0, (0, 0)))).2).1) == (((List.getD z1x0 (Int.toNat z1x3) (0, (0, (0, 0)))).2).1)) && ((((((List.getD z1x1 (Int.toNat z1x3) (0, (0, (0, 0)))).2).2).1) == ((((List.getD z1x0 (Int.toNat z1x3) (0, (0, (0, 0)))).2).2).1)) && ((((((List.getD z1x1 (Int.toNat z1x3) (0, (0, (0, 0)))).2).2).2) == ((((List.getD z1x0 (Int.toNat z1x3) (0, (0, (0, 0)))).2).2).2)) && true))))) ((Sum.inl ()) = y2_) (l (z1x0, z1x1, z1x2, (IntKind.wrap .i64 (z1x3 + 1))) y2_)))) ((Sum.inr ()) = y2_))
def curfewref14_SameLaunches_l0 : Nat → curfewref14_SameLaunches_l0_Z → curfewref14_SameLaunches_l0_Y → Prop
  | 0, _, _ => False
  | k + 1, (z1x0, z1x1, z1x2, z1x3), y2_ => (br (decide (z1x3 < z1x2)) (req ((decide (0 ≤ z1x3)) && (decide (z1x3 < (((List.length z1x1) : Nat) : Int)))) (req ((decide (0 ≤ z1x3)) && (decide (z1x3 < (((List.length z1x0) : Nat) : Int)))) (br (!((((List.getD z1x1 (Int.toNat z1x3) (0, (0, (0, 0)))).1) == ((List.getD z1x0 (Int.toNat z1x3) (0, (0, (0, 0)))).1)) && (((((List.getD z1x1 (Int.toNat z1x3) (0, (0, (0, 0)))).2).1) == (((List.getD z1x0 (Int.toNat z1x3) (0, (0, (0, 0)))).2).1)) && ((((((List.getD z1x1 (Int.toNat z1x3) (0, (0, (0, 0)))).2).2).1) == ((((List.getD z1x0 (Int.toNat z1x3) (0, (0, (0, 0)))).2).2).1)) && ((((((List.getD z1x1 (Int.toNat z1x3) (0, (0, (0, 0)))).2).2).2) == ((((List.getD z1x0 (Int.toNat z1x3) (0, (0, (0, 0)))).2).2).2)) && true))))) ((Sum.inl ()) = y2_) (curfewref14_SameLaunches_l0 k (z1x0, z1x1, z1x2, (IntKind.wrap .i64 (z1x3 + 1))) y2_)))) ((Sum.inr ()) = y2_))
def curfewref14_SameLaunches_l0_L (z : curfewref14_SameLaunches_l0_Z) (y : curfewref14_SameLaunches_l0_Y) : Prop := ∃ k, curfewref14_SameLaunches_l0 k z y
noncomputable def q33_0_lp : Lp := .auto none q33_0_body (loopK q33_0_k fun z y => ∃ k, curfewref14_SameLaunches_l0 k z y)
noncomputable def q33_lp : Nat → FuncId → Nat → Nat → Lp := lpTab [(33, 4, 0, 0, q33_0_lp)]
theorem q33_0_t (n k : Nat) (z1x0 z1x1 : List (Int × Int × Int × Int)) (z1x2 z1x3 : Int) (y2_ : curfewref14_SameLaunches_l0_Y) : rnd q33_cx okT q33_lp (n + 0) 33 none q33_0_body q33_0_k (curfewref14_SameLaunches_l0 k) (z1x0, z1x1, z1x2, z1x3) () () y2_ = curfewref14_SameLaunches_l0_F ipT (fun z y => curfewref14_SameLaunches_l0 k z y) z1x0 z1x1 z1x2 z1x3 y2_ := by kernel_rfl
theorem q33_0_r (k : Nat) (z1x0 z1x1 : List (Int × Int × Int × Int)) (z1x2 z1x3 : Int) (y2_ : curfewref14_SameLaunches_l0_Y) : curfewref14_SameLaunches_l0 (k + 1) (z1x0, z1x1, z1x2, z1x3) y2_ → curfewref14_SameLaunches_l0_F ipT (fun z y => curfewref14_SameLaunches_l0 k z y) z1x0 z1x1 z1x2 z1x3 y2_ := by
  unfold curfewref14_SameLaunches_l0_F
  intro h; simp only [curfewref14_SameLaunches_l0] at h; revert h
  refine MI.run ?_
  repeat' (first | intro _ | with_reducible constructor)
theorem q33_0_ok (n : Nat) : Owed q33_cx okT 33 q33_lp (n + 0) q33_0_lp := owed_rnd (lk := q33_0_k) (l := curfewref14_SameLaunches_l0) (fun z y h => h) fun k z q c y h => Eq.mpr (q33_0_t n k z.1 z.2.1 z.2.2.1 z.2.2.2 y) (q33_0_r k z.1 z.2.1 z.2.2.1 z.2.2.2 y h)
def curfewref14_SameLaunches_F (i : Ip) (a0 a1 : List (Int × Int × Int × Int)) (y : Bool) : Prop :=
  (br ((((List.length a0) : Nat) : Int) != (((List.length a1) : Nat) : Int)) (false = y) (i.lo none q33_0_body (∃ y4 : curfewref14_SameLaunches_l0_Y, curfewref14_SameLaunches_l0_L (a1, a0, (((List.length a0) : Nat) : Int), 0) y4 ∧ sume (fun y4 => (false = y)) (fun y4 => (true = y)) y4)))
def curfewref14_SameLaunches_R (a0 a1 : List (Int × Int × Int × Int)) (y : Bool) : Prop :=
  (br ((((List.length a0) : Nat) : Int) != (((List.length a1) : Nat) : Int)) (false = y) (∃ y4 : curfewref14_SameLaunches_l0_Y, curfewref14_SameLaunches_l0_L (a1, a0, (((List.length a0) : Nat) : Int), 0) y4 ∧ sume (fun y4 => (false = y)) (fun y4 => (true = y)) y4))
theorem q33_t (a0 a1 : List (Int × Int × Int × Int)) (y : Bool) : acall q33_cx okT q33_lp 60 (.fn 33 [] []) [(V.sl (.pr (.int .u64) (.pr (.int .u32) (.pr (.int .i64) (.int .i64)))) a0 none), (V.sl (.pr (.int .u64) (.pr (.int .u32) (.pr (.int .i64) (.int .i64)))) a1 none)] [] (leafK B33 y) = curfewref14_SameLaunches_F ipT a0 a1 y := by kernel_rfl
theorem q33_r (a0 a1 : List (Int × Int × Int × Int)) (y : Bool) : curfewref14_SameLaunches_R a0 a1 y → curfewref14_SameLaunches_F ipT a0 a1 y := by
  unfold curfewref14_SameLaunches_R curfewref14_SameLaunches_F
  refine MI.run ?_
  repeat' (first | intro _ | with_reducible constructor)
abbrev r33 (x : A33.den) (y : B33.den) : Prop := curfewref14_SameLaunches_R (x.1) (x.2) y
theorem curfewref14_SameLaunches_ok : FxOk Tryz.prog gsT 33 A33 B33 r33 := fo (c := q33_cx) rfl rfl (Fns_assoc ⟨b33, trivial⟩) (lp := q33_lp) (n := 60) (LpOk_tab ⟨q33_0_ok, trivial⟩) (enters Tryz.func33 (by kernel_rfl) rfl) (fun y => ⟨_, rfl⟩) fun x y h => Eq.mpr (q33_t _ _ y) (q33_r _ _ y h)
def e33 : Nat × Ent := (33, .fx A33 B33 r33)
noncomputable def c8 : Nat × Ent := (8, .body Tryz.f8)
theorem b8 {c : Cx} : EntOk Tryz.prog c 8 (.body Tryz.f8) := body_ent Tryz.func8 (by kernel_rfl) (by kernel_rfl)
abbrev A8 : RT := (.cons (.agg (.cons (.sl (.pr (.int .u64) (.pr (.int .u32) (.pr (.int .i64) (.int .i64))))) (.cons .bool (.cons (.int .i64) (.cons (.int .u64) (.cons (.int .i64) (.one (.sl (.int .u32))))))))) (.one (.agg (.cons (.sl (.pr (.int .u64) (.pr (.int .u32) (.pr (.int .i64) (.int .i64))))) (.cons .bool (.cons (.int .i64) (.cons (.int .u64) (.cons (.int .i64) (.one (.sl (.int .u32)))))))))))
abbrev B8 : RT := .bool
noncomputable def q8_cx : Cx := ⟨tyT, [c8, e32, e33], gsT, eqT, false, []⟩
def curfewref14_SameEffect_R (a0 : List (Int × Int × Int × Int)) (a1 : Bool) (a2 a3 a4 : Int) (a5 : List Int) (a6 : List (Int × Int × Int × Int)) (a7 : Bool) (a8 a9 a10 : Int) (a11 : List Int) (y : Bool) : Prop :=
  (br (a1 == a7) (br (a2 == a8) (br (a3 == a9) (∃ y1 : Bool, (curfewref12_SameReply_R a4 a5 a10 a11 y1) ∧ (br y1 (∃ y2 : Bool, (curfewref14_SameLaunches_R a0 a6 y2) ∧ (y2 = y)) (false = y))) (false = y)) (false = y)) (false = y))
theorem q8_t (a0 : List (Int × Int × Int × Int)) (a1 : Bool) (a2 a3 a4 : Int) (a5 : List Int) (a6 : List (Int × Int × Int × Int)) (a7 : Bool) (a8 a9 a10 : Int) (a11 : List Int) (y : Bool) : acall q8_cx okT lpT 60 (.fn 8 [] []) [(V.agg [(V.sl (.pr (.int .u64) (.pr (.int .u32) (.pr (.int .i64) (.int .i64)))) a0 none), (vb a1), (vi a2), (vu a3), (vi a4), (V.sl (.int .u32) a5 none)]), (V.agg [(V.sl (.pr (.int .u64) (.pr (.int .u32) (.pr (.int .i64) (.int .i64)))) a6 none), (vb a7), (vi a8), (vu a9), (vi a10), (V.sl (.int .u32) a11 none)])] [] (leafK B8 y) = curfewref14_SameEffect_R a0 a1 a2 a3 a4 a5 a6 a7 a8 a9 a10 a11 y := by kernel_rfl
abbrev r8 (x : A8.den) (y : B8.den) : Prop := curfewref14_SameEffect_R (x.1.1) (x.1.2.1) (x.1.2.2.1) (x.1.2.2.2.1) (x.1.2.2.2.2.1) (x.1.2.2.2.2.2) (x.2.1) (x.2.2.1) (x.2.2.2.1) (x.2.2.2.2.1) (x.2.2.2.2.2.1) (x.2.2.2.2.2.2) y
theorem curfewref14_SameEffect_ok : FxOk Tryz.prog gsT 8 A8 B8 r8 := fo (c := q8_cx) rfl rfl (Fns_assoc ⟨b8, curfewref12_SameReply_ok, curfewref14_SameLaunches_ok, trivial⟩) (n := 60) (lp_ok) (enters Tryz.func8 (by kernel_rfl) rfl) (fun y => ⟨_, rfl⟩) fun x y h => Eq.mpr (q8_t _ _ _ _ _ _ _ _ _ _ _ _ y) h
def e8 : Nat × Ent := (8, .fx A8 B8 r8)
end Go.Proofs.YtbammhmbapeboaaGreatDoor
