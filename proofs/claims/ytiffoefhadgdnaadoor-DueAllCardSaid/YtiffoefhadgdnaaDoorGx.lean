/- What Go functions come to (printed by gb.py). -/
import Derived.Test.YtiffoefhadgdnaaDoorGxb
namespace Go.Proofs.YtiffoefhadgdnaaDoor
open Go Go.B Go.RowKit
set_option linter.unusedVariables false
set_option linter.unusedSimpArgs false
set_option maxRecDepth 100000
attribute [local irreducible] Go.B.acall Go.B.acode
theorem q30_run (a0 : Int) (a1 : Bool) (a2 : Int) (a3 : Int) (a4 : Int) (a5 : Int) (a6 : Int) (a7 : Int) (a8 : Int) (a9 : Int) (a10 : Int) (a11 : Bool) (a12 : Int) (a13 : Int) (a14 : Int) (a15 : Int) (a16 : List Int) (a17 : Int) (y : List Int × Int) (h : due_Occur_R a0 a1 a2 a3 a4 a5 a6 a7 a8 a9 a10 a11 a12 a13 a14 a15 a16 a17 y) : acall q30_cx okT lpT 60 (.fn 30 [] []) [(V.agg [(V.int .u32 a0), (V.bool a1), (V.int .u64 a2), (V.int .u64 a3), (V.int .u64 a4), (V.int .u64 a5), (V.int .u64 a6), (V.int .i64 a7), (V.int .i64 a8), (V.int .i64 a9), (V.int .i64 a10), (V.bool a11), (V.int .i64 a12), (V.int .u64 a13), (V.int .i64 a14), (V.int .i64 a15), (V.sl (.int .i64) a16 none)]), (V.int .i64 a17)] [] (leafK (.tup (.cons (.sl (.int .i64)) (.one (.int .i64)))) y) := by
  refine cast (q30_tree a0 a1 a2 a3 a4 a5 a6 a7 a8 a9 a10 a11 a12 a13 a14 a15 a16 a17 y).symm ?_
  unfold due_Occur_R at h
  refine rqn_intro 4 ?_
  refine ex_both h fun y1 h => ?_
  refine rqn_intro 2 ?_
  refine br_both h (fun hb h => ?_) (fun hb h => ?_)
  ·refine rqn_intro 3 ?_
   exact req_intro rfl h
  ·refine rqn_intro 2 ?_
   refine ex_both h fun y2 h => ?_
   refine rqn_intro 2 ?_
   refine br_both h (fun hb h => ?_) (fun hb h => ?_)
   ·refine rqn_intro 2 ?_
    exact req_intro rfl h
   ·refine rqn_intro 4 ?_
    refine br_both h (fun hb h => ?_) (fun hb h => ?_)
    ·refine rqn_intro 6 ?_
     exact req_intro rfl h
    ·refine rqn_intro 5 ?_
     refine br_both h (fun hb h => ?_) (fun hb h => ?_)
     ·refine rqn_intro 5 ?_
      exact req_intro rfl h
     ·refine rqn_intro 8 ?_
      refine ⟨?_, ?_, ?_⟩
      ·refine req_intro rfl ?_
       obtain ⟨q, h⟩ := req_of h
       refine req_intro (band (band_l q) (band_r q)) ?_
       refine ⟨?_, ?_, ?_⟩
       ·refine br_both h (fun hb h => ?_) (fun hb h => ?_)
        ·refine ⟨?_, ?_, ?_⟩
         ·refine rqn_intro 7 ?_
          refine ex_both h fun y3 h => ?_
          refine rqn_intro 8 ?_
          refine br_both h (fun hb h => ?_) (fun hb h => ?_)
          ·refine rqn_intro 3 ?_
           refine an_intro 1 ?_
           refine rqn_intro 3 ?_
           refine ex_both h fun y4 h => ?_
           refine rqn_intro 2 ?_
           exact req_intro rfl h
          ·refine rqn_intro 6 ?_
           refine br_both h (fun hb h => ?_) (fun hb h => ?_)
           ·refine rqn_intro 2 ?_
            refine an_intro 1 ?_
            refine rqn_intro 3 ?_
            refine ex_both h fun y6 h => ?_
            refine rqn_intro 2 ?_
            exact req_intro rfl h
           ·refine rqn_intro 3 ?_
            refine an_intro 1 ?_
            refine rqn_intro 3 ?_
            refine ex_both h fun y8 h => ?_
            refine rqn_intro 2 ?_
            exact req_intro rfl h
         ·refine req_intro rfl ?_
          refine ⟨?_, ?_⟩
          ·refine rqn_intro 7 ?_
           refine ex_both h fun y10 h => ?_
           refine rqn_intro 8 ?_
           refine br_both h (fun hb h => ?_) (fun hb h => ?_)
           ·refine rqn_intro 5 ?_
            refine ex_both h fun y11 h => ?_
            refine rqn_intro 2 ?_
            exact req_intro rfl h
           ·refine rqn_intro 6 ?_
            refine br_both h (fun hb h => ?_) (fun hb h => ?_)
            ·refine rqn_intro 4 ?_
             refine ex_both h fun y12 h => ?_
             refine rqn_intro 2 ?_
             exact req_intro rfl h
            ·refine rqn_intro 5 ?_
             refine ex_both h fun y13 h => ?_
             refine rqn_intro 2 ?_
             exact req_intro rfl h
          ·refine rqn_intro 8 ?_
           refine ex_both h fun y14 h => ?_
           refine rqn_intro 8 ?_
           refine br_both h (fun hb h => ?_) (fun hb h => ?_)
           ·refine rqn_intro 4 ?_
            refine ex_both h fun y15 h => ?_
            refine rqn_intro 2 ?_
            exact req_intro rfl h
           ·refine rqn_intro 6 ?_
            refine br_both h (fun hb h => ?_) (fun hb h => ?_)
            ·refine rqn_intro 3 ?_
             refine ex_both h fun y16 h => ?_
             refine rqn_intro 2 ?_
             exact req_intro rfl h
            ·refine rqn_intro 4 ?_
             refine ex_both h fun y17 h => ?_
             refine rqn_intro 2 ?_
             exact req_intro rfl h
         ·refine req_intro rfl ?_
          refine ⟨?_, ?_⟩
          ·refine rqn_intro 7 ?_
           refine ex_both h fun y18 h => ?_
           refine rqn_intro 8 ?_
           refine br_both h (fun hb h => ?_) (fun hb h => ?_)
           ·refine rqn_intro 5 ?_
            refine ex_both h fun y19 h => ?_
            refine rqn_intro 2 ?_
            exact req_intro rfl h
           ·refine rqn_intro 6 ?_
            refine br_both h (fun hb h => ?_) (fun hb h => ?_)
            ·refine rqn_intro 4 ?_
             refine ex_both h fun y20 h => ?_
             refine rqn_intro 2 ?_
             exact req_intro rfl h
            ·refine rqn_intro 5 ?_
             refine ex_both h fun y21 h => ?_
             refine rqn_intro 2 ?_
             exact req_intro rfl h
          ·refine rqn_intro 8 ?_
           refine ex_both h fun y22 h => ?_
           refine rqn_intro 8 ?_
           refine br_both h (fun hb h => ?_) (fun hb h => ?_)
           ·refine rqn_intro 4 ?_
            refine ex_both h fun y23 h => ?_
            refine rqn_intro 2 ?_
            exact req_intro rfl h
           ·refine rqn_intro 6 ?_
            refine br_both h (fun hb h => ?_) (fun hb h => ?_)
            ·refine rqn_intro 3 ?_
             refine ex_both h fun y24 h => ?_
             refine rqn_intro 2 ?_
             exact req_intro rfl h
            ·refine rqn_intro 4 ?_
             refine ex_both h fun y25 h => ?_
             refine rqn_intro 2 ?_
             exact req_intro rfl h
        ·refine br_both h (fun hb h => ?_) (fun hb h => ?_)
         ·refine ⟨?_, ?_, ?_⟩
          ·refine rqn_intro 8 ?_
           refine ex_both h fun y26 h => ?_
           refine rqn_intro 8 ?_
           refine br_both h (fun hb h => ?_) (fun hb h => ?_)
           ·refine rqn_intro 3 ?_
            refine an_intro 1 ?_
            refine rqn_intro 3 ?_
            refine ex_both h fun y27 h => ?_
            refine rqn_intro 2 ?_
            exact req_intro rfl h
           ·refine rqn_intro 6 ?_
            refine br_both h (fun hb h => ?_) (fun hb h => ?_)
            ·refine rqn_intro 2 ?_
             refine an_intro 1 ?_
             refine rqn_intro 3 ?_
             refine ex_both h fun y29 h => ?_
             refine rqn_intro 2 ?_
             exact req_intro rfl h
            ·refine rqn_intro 3 ?_
             refine an_intro 1 ?_
             refine rqn_intro 3 ?_
             refine ex_both h fun y31 h => ?_
             refine rqn_intro 2 ?_
             exact req_intro rfl h
          ·refine req_intro rfl ?_
           refine ⟨?_, ?_⟩
           ·refine rqn_intro 8 ?_
            refine ex_both h fun y33 h => ?_
            refine rqn_intro 8 ?_
            refine br_both h (fun hb h => ?_) (fun hb h => ?_)
            ·refine rqn_intro 5 ?_
             refine ex_both h fun y34 h => ?_
             refine rqn_intro 2 ?_
             exact req_intro rfl h
            ·refine rqn_intro 6 ?_
             refine br_both h (fun hb h => ?_) (fun hb h => ?_)
             ·refine rqn_intro 4 ?_
              refine ex_both h fun y35 h => ?_
              refine rqn_intro 2 ?_
              exact req_intro rfl h
             ·refine rqn_intro 5 ?_
              refine ex_both h fun y36 h => ?_
              refine rqn_intro 2 ?_
              exact req_intro rfl h
           ·refine rqn_intro 9 ?_
            refine ex_both h fun y37 h => ?_
            refine rqn_intro 8 ?_
            refine br_both h (fun hb h => ?_) (fun hb h => ?_)
            ·refine rqn_intro 4 ?_
             refine ex_both h fun y38 h => ?_
             refine rqn_intro 2 ?_
             exact req_intro rfl h
            ·refine rqn_intro 6 ?_
             refine br_both h (fun hb h => ?_) (fun hb h => ?_)
             ·refine rqn_intro 3 ?_
              refine ex_both h fun y39 h => ?_
              refine rqn_intro 2 ?_
              exact req_intro rfl h
             ·refine rqn_intro 4 ?_
              refine ex_both h fun y40 h => ?_
              refine rqn_intro 2 ?_
              exact req_intro rfl h
          ·refine req_intro rfl ?_
           refine ⟨?_, ?_⟩
           ·refine rqn_intro 8 ?_
            refine ex_both h fun y41 h => ?_
            refine rqn_intro 8 ?_
            refine br_both h (fun hb h => ?_) (fun hb h => ?_)
            ·refine rqn_intro 5 ?_
             refine ex_both h fun y42 h => ?_
             refine rqn_intro 2 ?_
             exact req_intro rfl h
            ·refine rqn_intro 6 ?_
             refine br_both h (fun hb h => ?_) (fun hb h => ?_)
             ·refine rqn_intro 4 ?_
              refine ex_both h fun y43 h => ?_
              refine rqn_intro 2 ?_
              exact req_intro rfl h
             ·refine rqn_intro 5 ?_
              refine ex_both h fun y44 h => ?_
              refine rqn_intro 2 ?_
              exact req_intro rfl h
           ·refine rqn_intro 9 ?_
            refine ex_both h fun y45 h => ?_
            refine rqn_intro 8 ?_
            refine br_both h (fun hb h => ?_) (fun hb h => ?_)
            ·refine rqn_intro 4 ?_
             refine ex_both h fun y46 h => ?_
             refine rqn_intro 2 ?_
             exact req_intro rfl h
            ·refine rqn_intro 6 ?_
             refine br_both h (fun hb h => ?_) (fun hb h => ?_)
             ·refine rqn_intro 3 ?_
              refine ex_both h fun y47 h => ?_
              refine rqn_intro 2 ?_
              exact req_intro rfl h
             ·refine rqn_intro 4 ?_
              refine ex_both h fun y48 h => ?_
              refine rqn_intro 2 ?_
              exact req_intro rfl h
         ·refine br_both h (fun hb h => ?_) (fun hb h => ?_)
          ·refine ⟨?_, ?_, ?_⟩
           ·refine rqn_intro 9 ?_
            refine ex_both h fun y49 h => ?_
            intro c50 hc50
            refine rqn_intro 7 ?_
            refine an_intro 1 ?_
            refine rqn_intro 3 ?_
            refine ex_both h fun y51 h => ?_
            refine rqn_intro 2 ?_
            exact req_intro (band (band (Nat.beq_refl _) rfl) (band rfl rfl)) h
           ·refine req_intro rfl ?_
            refine ⟨?_, ?_⟩
            ·refine rqn_intro 9 ?_
             refine ex_both h fun y53 h => ?_
             intro c54 hc54
             refine rqn_intro 9 ?_
             refine ex_both h fun y55 h => ?_
             refine rqn_intro 2 ?_
             exact req_intro (band (band (Nat.beq_refl _) rfl) (band rfl rfl)) h
            ·refine rqn_intro 10 ?_
             refine ex_both h fun y56 h => ?_
             intro c57 hc57
             refine rqn_intro 8 ?_
             refine ex_both h fun y58 h => ?_
             refine rqn_intro 2 ?_
             exact req_intro (band (band (Nat.beq_refl _) rfl) (band rfl rfl)) h
           ·refine req_intro rfl ?_
            refine ⟨?_, ?_⟩
            ·refine rqn_intro 9 ?_
             refine ex_both h fun y59 h => ?_
             intro c60 hc60
             refine rqn_intro 9 ?_
             refine ex_both h fun y61 h => ?_
             refine rqn_intro 2 ?_
             exact req_intro (band (band (Nat.beq_refl _) rfl) (band rfl rfl)) h
            ·refine rqn_intro 10 ?_
             refine ex_both h fun y62 h => ?_
             intro c63 hc63
             refine rqn_intro 8 ?_
             refine ex_both h fun y64 h => ?_
             refine rqn_intro 2 ?_
             exact req_intro (band (band (Nat.beq_refl _) rfl) (band rfl rfl)) h
          ·exact h.elim
       ·refine req_intro rfl ?_
        refine ⟨?_, ?_⟩
        ·refine br_both h (fun hb h => ?_) (fun hb h => ?_)
         ·refine ⟨?_, ?_⟩
          ·refine rqn_intro 7 ?_
           refine ex_both h fun y65 h => ?_
           refine rqn_intro 8 ?_
           refine br_both h (fun hb h => ?_) (fun hb h => ?_)
           ·refine rqn_intro 5 ?_
            refine ex_both h fun y66 h => ?_
            refine rqn_intro 2 ?_
            exact req_intro rfl h
           ·refine rqn_intro 6 ?_
            refine br_both h (fun hb h => ?_) (fun hb h => ?_)
            ·refine rqn_intro 4 ?_
             refine ex_both h fun y67 h => ?_
             refine rqn_intro 2 ?_
             exact req_intro rfl h
            ·refine rqn_intro 5 ?_
             refine ex_both h fun y68 h => ?_
             refine rqn_intro 2 ?_
             exact req_intro rfl h
          ·refine rqn_intro 8 ?_
           refine ex_both h fun y69 h => ?_
           refine rqn_intro 8 ?_
           refine br_both h (fun hb h => ?_) (fun hb h => ?_)
           ·refine rqn_intro 4 ?_
            refine ex_both h fun y70 h => ?_
            refine rqn_intro 2 ?_
            exact req_intro rfl h
           ·refine rqn_intro 6 ?_
            refine br_both h (fun hb h => ?_) (fun hb h => ?_)
            ·refine rqn_intro 3 ?_
             refine ex_both h fun y71 h => ?_
             refine rqn_intro 2 ?_
             exact req_intro rfl h
            ·refine rqn_intro 4 ?_
             refine ex_both h fun y72 h => ?_
             refine rqn_intro 2 ?_
             exact req_intro rfl h
         ·refine br_both h (fun hb h => ?_) (fun hb h => ?_)
          ·refine ⟨?_, ?_⟩
           ·refine rqn_intro 8 ?_
            refine ex_both h fun y73 h => ?_
            refine rqn_intro 8 ?_
            refine br_both h (fun hb h => ?_) (fun hb h => ?_)
            ·refine rqn_intro 5 ?_
             refine ex_both h fun y74 h => ?_
             refine rqn_intro 2 ?_
             exact req_intro rfl h
            ·refine rqn_intro 6 ?_
             refine br_both h (fun hb h => ?_) (fun hb h => ?_)
             ·refine rqn_intro 4 ?_
              refine ex_both h fun y75 h => ?_
              refine rqn_intro 2 ?_
              exact req_intro rfl h
             ·refine rqn_intro 5 ?_
              refine ex_both h fun y76 h => ?_
              refine rqn_intro 2 ?_
              exact req_intro rfl h
           ·refine rqn_intro 9 ?_
            refine ex_both h fun y77 h => ?_
            refine rqn_intro 8 ?_
            refine br_both h (fun hb h => ?_) (fun hb h => ?_)
            ·refine rqn_intro 4 ?_
             refine ex_both h fun y78 h => ?_
             refine rqn_intro 2 ?_
             exact req_intro rfl h
            ·refine rqn_intro 6 ?_
             refine br_both h (fun hb h => ?_) (fun hb h => ?_)
             ·refine rqn_intro 3 ?_
              refine ex_both h fun y79 h => ?_
              refine rqn_intro 2 ?_
              exact req_intro rfl h
             ·refine rqn_intro 4 ?_
              refine ex_both h fun y80 h => ?_
              refine rqn_intro 2 ?_
              exact req_intro rfl h
          ·refine br_both h (fun hb h => ?_) (fun hb h => ?_)
           ·refine ⟨?_, ?_⟩
            ·refine rqn_intro 9 ?_
             refine ex_both h fun y81 h => ?_
             intro c82 hc82
             refine rqn_intro 9 ?_
             refine ex_both h fun y83 h => ?_
             refine rqn_intro 2 ?_
             exact req_intro (band (band (Nat.beq_refl _) rfl) (band rfl rfl)) h
            ·refine rqn_intro 10 ?_
             refine ex_both h fun y84 h => ?_
             intro c85 hc85
             refine rqn_intro 8 ?_
             refine ex_both h fun y86 h => ?_
             refine rqn_intro 2 ?_
             exact req_intro (band (band (Nat.beq_refl _) rfl) (band rfl rfl)) h
           ·exact h.elim
        ·refine req_intro rfl ?_
         refine br_both h (fun hb h => ?_) (fun hb h => ?_)
         ·refine rqn_intro 7 ?_
          refine ex_both h fun y87 h => ?_
          refine rqn_intro 8 ?_
          refine br_both h (fun hb h => ?_) (fun hb h => ?_)
          ·refine rqn_intro 4 ?_
           refine ex_both h fun y88 h => ?_
           refine rqn_intro 2 ?_
           exact req_intro rfl h
          ·refine rqn_intro 6 ?_
           refine br_both h (fun hb h => ?_) (fun hb h => ?_)
           ·refine rqn_intro 3 ?_
            refine ex_both h fun y89 h => ?_
            refine rqn_intro 2 ?_
            exact req_intro rfl h
           ·refine rqn_intro 4 ?_
            refine ex_both h fun y90 h => ?_
            refine rqn_intro 2 ?_
            exact req_intro rfl h
         ·refine br_both h (fun hb h => ?_) (fun hb h => ?_)
          ·refine rqn_intro 8 ?_
           refine ex_both h fun y91 h => ?_
           refine rqn_intro 8 ?_
           refine br_both h (fun hb h => ?_) (fun hb h => ?_)
           ·refine rqn_intro 4 ?_
            refine ex_both h fun y92 h => ?_
            refine rqn_intro 2 ?_
            exact req_intro rfl h
           ·refine rqn_intro 6 ?_
            refine br_both h (fun hb h => ?_) (fun hb h => ?_)
            ·refine rqn_intro 3 ?_
             refine ex_both h fun y93 h => ?_
             refine rqn_intro 2 ?_
             exact req_intro rfl h
            ·refine rqn_intro 4 ?_
             refine ex_both h fun y94 h => ?_
             refine rqn_intro 2 ?_
             exact req_intro rfl h
          ·refine br_both h (fun hb h => ?_) (fun hb h => ?_)
           ·refine rqn_intro 9 ?_
            refine ex_both h fun y95 h => ?_
            intro c96 hc96
            refine rqn_intro 8 ?_
            refine ex_both h fun y97 h => ?_
            refine rqn_intro 2 ?_
            exact req_intro (band (band (Nat.beq_refl _) rfl) (band rfl rfl)) h
           ·exact h.elim
       ·refine req_intro rfl ?_
        refine ⟨?_, ?_⟩
        ·refine br_both h (fun hb h => ?_) (fun hb h => ?_)
         ·refine ⟨?_, ?_⟩
          ·refine rqn_intro 7 ?_
           refine ex_both h fun y98 h => ?_
           refine rqn_intro 8 ?_
           refine br_both h (fun hb h => ?_) (fun hb h => ?_)
           ·refine rqn_intro 5 ?_
            refine ex_both h fun y99 h => ?_
            refine rqn_intro 2 ?_
            exact req_intro rfl h
           ·refine rqn_intro 6 ?_
            refine br_both h (fun hb h => ?_) (fun hb h => ?_)
            ·refine rqn_intro 4 ?_
             refine ex_both h fun y100 h => ?_
             refine rqn_intro 2 ?_
             exact req_intro rfl h
            ·refine rqn_intro 5 ?_
             refine ex_both h fun y101 h => ?_
             refine rqn_intro 2 ?_
             exact req_intro rfl h
          ·refine rqn_intro 8 ?_
           refine ex_both h fun y102 h => ?_
           refine rqn_intro 8 ?_
           refine br_both h (fun hb h => ?_) (fun hb h => ?_)
           ·refine rqn_intro 4 ?_
            refine ex_both h fun y103 h => ?_
            refine rqn_intro 2 ?_
            exact req_intro rfl h
           ·refine rqn_intro 6 ?_
            refine br_both h (fun hb h => ?_) (fun hb h => ?_)
            ·refine rqn_intro 3 ?_
             refine ex_both h fun y104 h => ?_
             refine rqn_intro 2 ?_
             exact req_intro rfl h
            ·refine rqn_intro 4 ?_
             refine ex_both h fun y105 h => ?_
             refine rqn_intro 2 ?_
             exact req_intro rfl h
         ·refine br_both h (fun hb h => ?_) (fun hb h => ?_)
          ·refine ⟨?_, ?_⟩
           ·refine rqn_intro 8 ?_
            refine ex_both h fun y106 h => ?_
            refine rqn_intro 8 ?_
            refine br_both h (fun hb h => ?_) (fun hb h => ?_)
            ·refine rqn_intro 5 ?_
             refine ex_both h fun y107 h => ?_
             refine rqn_intro 2 ?_
             exact req_intro rfl h
            ·refine rqn_intro 6 ?_
             refine br_both h (fun hb h => ?_) (fun hb h => ?_)
             ·refine rqn_intro 4 ?_
              refine ex_both h fun y108 h => ?_
              refine rqn_intro 2 ?_
              exact req_intro rfl h
             ·refine rqn_intro 5 ?_
              refine ex_both h fun y109 h => ?_
              refine rqn_intro 2 ?_
              exact req_intro rfl h
           ·refine rqn_intro 9 ?_
            refine ex_both h fun y110 h => ?_
            refine rqn_intro 8 ?_
            refine br_both h (fun hb h => ?_) (fun hb h => ?_)
            ·refine rqn_intro 4 ?_
             refine ex_both h fun y111 h => ?_
             refine rqn_intro 2 ?_
             exact req_intro rfl h
            ·refine rqn_intro 6 ?_
             refine br_both h (fun hb h => ?_) (fun hb h => ?_)
             ·refine rqn_intro 3 ?_
              refine ex_both h fun y112 h => ?_
              refine rqn_intro 2 ?_
              exact req_intro rfl h
             ·refine rqn_intro 4 ?_
              refine ex_both h fun y113 h => ?_
              refine rqn_intro 2 ?_
              exact req_intro rfl h
          ·refine br_both h (fun hb h => ?_) (fun hb h => ?_)
           ·refine ⟨?_, ?_⟩
            ·refine rqn_intro 9 ?_
             refine ex_both h fun y114 h => ?_
             intro c115 hc115
             refine rqn_intro 9 ?_
             refine ex_both h fun y116 h => ?_
             refine rqn_intro 2 ?_
             exact req_intro (band (band (Nat.beq_refl _) rfl) (band rfl rfl)) h
            ·refine rqn_intro 10 ?_
             refine ex_both h fun y117 h => ?_
             intro c118 hc118
             refine rqn_intro 8 ?_
             refine ex_both h fun y119 h => ?_
             refine rqn_intro 2 ?_
             exact req_intro (band (band (Nat.beq_refl _) rfl) (band rfl rfl)) h
           ·exact h.elim
        ·refine req_intro rfl ?_
         refine br_both h (fun hb h => ?_) (fun hb h => ?_)
         ·refine rqn_intro 7 ?_
          refine ex_both h fun y120 h => ?_
          refine rqn_intro 8 ?_
          refine br_both h (fun hb h => ?_) (fun hb h => ?_)
          ·refine rqn_intro 4 ?_
           refine ex_both h fun y121 h => ?_
           refine rqn_intro 2 ?_
           exact req_intro rfl h
          ·refine rqn_intro 6 ?_
           refine br_both h (fun hb h => ?_) (fun hb h => ?_)
           ·refine rqn_intro 3 ?_
            refine ex_both h fun y122 h => ?_
            refine rqn_intro 2 ?_
            exact req_intro rfl h
           ·refine rqn_intro 4 ?_
            refine ex_both h fun y123 h => ?_
            refine rqn_intro 2 ?_
            exact req_intro rfl h
         ·refine br_both h (fun hb h => ?_) (fun hb h => ?_)
          ·refine rqn_intro 8 ?_
           refine ex_both h fun y124 h => ?_
           refine rqn_intro 8 ?_
           refine br_both h (fun hb h => ?_) (fun hb h => ?_)
           ·refine rqn_intro 4 ?_
            refine ex_both h fun y125 h => ?_
            refine rqn_intro 2 ?_
            exact req_intro rfl h
           ·refine rqn_intro 6 ?_
            refine br_both h (fun hb h => ?_) (fun hb h => ?_)
            ·refine rqn_intro 3 ?_
             refine ex_both h fun y126 h => ?_
             refine rqn_intro 2 ?_
             exact req_intro rfl h
            ·refine rqn_intro 4 ?_
             refine ex_both h fun y127 h => ?_
             refine rqn_intro 2 ?_
             exact req_intro rfl h
          ·refine br_both h (fun hb h => ?_) (fun hb h => ?_)
           ·refine rqn_intro 9 ?_
            refine ex_both h fun y128 h => ?_
            intro c129 hc129
            refine rqn_intro 8 ?_
            refine ex_both h fun y130 h => ?_
            refine rqn_intro 2 ?_
            exact req_intro (band (band (Nat.beq_refl _) rfl) (band rfl rfl)) h
           ·exact h.elim
      ·refine req_intro rfl ?_
       refine ⟨?_, ?_⟩
       ·refine req_intro rfl ?_
        obtain ⟨q, h⟩ := req_of h
        refine req_intro (band (band_l q) (band_r q)) ?_
        refine ⟨?_, ?_⟩
        ·refine br_both h (fun hb h => ?_) (fun hb h => ?_)
         ·refine ⟨?_, ?_⟩
          ·refine rqn_intro 7 ?_
           refine ex_both h fun y131 h => ?_
           refine rqn_intro 8 ?_
           refine br_both h (fun hb h => ?_) (fun hb h => ?_)
           ·refine rqn_intro 5 ?_
            refine ex_both h fun y132 h => ?_
            refine rqn_intro 2 ?_
            exact req_intro rfl h
           ·refine rqn_intro 6 ?_
            refine br_both h (fun hb h => ?_) (fun hb h => ?_)
            ·refine rqn_intro 4 ?_
             refine ex_both h fun y133 h => ?_
             refine rqn_intro 2 ?_
             exact req_intro rfl h
            ·refine rqn_intro 5 ?_
             refine ex_both h fun y134 h => ?_
             refine rqn_intro 2 ?_
             exact req_intro rfl h
          ·refine rqn_intro 8 ?_
           refine ex_both h fun y135 h => ?_
           refine rqn_intro 8 ?_
           refine br_both h (fun hb h => ?_) (fun hb h => ?_)
           ·refine rqn_intro 4 ?_
            refine ex_both h fun y136 h => ?_
            refine rqn_intro 2 ?_
            exact req_intro rfl h
           ·refine rqn_intro 6 ?_
            refine br_both h (fun hb h => ?_) (fun hb h => ?_)
            ·refine rqn_intro 3 ?_
             refine ex_both h fun y137 h => ?_
             refine rqn_intro 2 ?_
             exact req_intro rfl h
            ·refine rqn_intro 4 ?_
             refine ex_both h fun y138 h => ?_
             refine rqn_intro 2 ?_
             exact req_intro rfl h
         ·refine br_both h (fun hb h => ?_) (fun hb h => ?_)
          ·refine ⟨?_, ?_⟩
           ·refine rqn_intro 8 ?_
            refine ex_both h fun y139 h => ?_
            refine rqn_intro 8 ?_
            refine br_both h (fun hb h => ?_) (fun hb h => ?_)
            ·refine rqn_intro 5 ?_
             refine ex_both h fun y140 h => ?_
             refine rqn_intro 2 ?_
             exact req_intro rfl h
            ·refine rqn_intro 6 ?_
             refine br_both h (fun hb h => ?_) (fun hb h => ?_)
             ·refine rqn_intro 4 ?_
              refine ex_both h fun y141 h => ?_
              refine rqn_intro 2 ?_
              exact req_intro rfl h
             ·refine rqn_intro 5 ?_
              refine ex_both h fun y142 h => ?_
              refine rqn_intro 2 ?_
              exact req_intro rfl h
           ·refine rqn_intro 9 ?_
            refine ex_both h fun y143 h => ?_
            refine rqn_intro 8 ?_
            refine br_both h (fun hb h => ?_) (fun hb h => ?_)
            ·refine rqn_intro 4 ?_
             refine ex_both h fun y144 h => ?_
             refine rqn_intro 2 ?_
             exact req_intro rfl h
            ·refine rqn_intro 6 ?_
             refine br_both h (fun hb h => ?_) (fun hb h => ?_)
             ·refine rqn_intro 3 ?_
              refine ex_both h fun y145 h => ?_
              refine rqn_intro 2 ?_
              exact req_intro rfl h
             ·refine rqn_intro 4 ?_
              refine ex_both h fun y146 h => ?_
              refine rqn_intro 2 ?_
              exact req_intro rfl h
          ·refine br_both h (fun hb h => ?_) (fun hb h => ?_)
           ·refine ⟨?_, ?_⟩
            ·refine rqn_intro 9 ?_
             refine ex_both h fun y147 h => ?_
             intro c148 hc148
             refine rqn_intro 9 ?_
             refine ex_both h fun y149 h => ?_
             refine rqn_intro 2 ?_
             exact req_intro (band (band (Nat.beq_refl _) rfl) (band rfl rfl)) h
            ·refine rqn_intro 10 ?_
             refine ex_both h fun y150 h => ?_
             intro c151 hc151
             refine rqn_intro 8 ?_
             refine ex_both h fun y152 h => ?_
             refine rqn_intro 2 ?_
             exact req_intro (band (band (Nat.beq_refl _) rfl) (band rfl rfl)) h
           ·exact h.elim
        ·refine req_intro rfl ?_
         refine br_both h (fun hb h => ?_) (fun hb h => ?_)
         ·refine rqn_intro 7 ?_
          refine ex_both h fun y153 h => ?_
          refine rqn_intro 8 ?_
          refine br_both h (fun hb h => ?_) (fun hb h => ?_)
          ·refine rqn_intro 4 ?_
           refine ex_both h fun y154 h => ?_
           refine rqn_intro 2 ?_
           exact req_intro rfl h
          ·refine rqn_intro 6 ?_
           refine br_both h (fun hb h => ?_) (fun hb h => ?_)
           ·refine rqn_intro 3 ?_
            refine ex_both h fun y155 h => ?_
            refine rqn_intro 2 ?_
            exact req_intro rfl h
           ·refine rqn_intro 4 ?_
            refine ex_both h fun y156 h => ?_
            refine rqn_intro 2 ?_
            exact req_intro rfl h
         ·refine br_both h (fun hb h => ?_) (fun hb h => ?_)
          ·refine rqn_intro 8 ?_
           refine ex_both h fun y157 h => ?_
           refine rqn_intro 8 ?_
           refine br_both h (fun hb h => ?_) (fun hb h => ?_)
           ·refine rqn_intro 4 ?_
            refine ex_both h fun y158 h => ?_
            refine rqn_intro 2 ?_
            exact req_intro rfl h
           ·refine rqn_intro 6 ?_
            refine br_both h (fun hb h => ?_) (fun hb h => ?_)
            ·refine rqn_intro 3 ?_
             refine ex_both h fun y159 h => ?_
             refine rqn_intro 2 ?_
             exact req_intro rfl h
            ·refine rqn_intro 4 ?_
             refine ex_both h fun y160 h => ?_
             refine rqn_intro 2 ?_
             exact req_intro rfl h
          ·refine br_both h (fun hb h => ?_) (fun hb h => ?_)
           ·refine rqn_intro 9 ?_
            refine ex_both h fun y161 h => ?_
            intro c162 hc162
            refine rqn_intro 8 ?_
            refine ex_both h fun y163 h => ?_
            refine rqn_intro 2 ?_
            exact req_intro (band (band (Nat.beq_refl _) rfl) (band rfl rfl)) h
           ·exact h.elim
       ·refine rqn_intro 2 ?_
        obtain ⟨q, h⟩ := req_of h
        refine req_intro (band (band_l q) (band_r q)) ?_
        refine br_both h (fun hb h => ?_) (fun hb h => ?_)
        ·refine rqn_intro 7 ?_
         refine ex_both h fun y164 h => ?_
         refine rqn_intro 8 ?_
         refine br_both h (fun hb h => ?_) (fun hb h => ?_)
         ·refine rqn_intro 4 ?_
          refine ex_both h fun y165 h => ?_
          refine rqn_intro 2 ?_
          exact req_intro rfl h
         ·refine rqn_intro 6 ?_
          refine br_both h (fun hb h => ?_) (fun hb h => ?_)
          ·refine rqn_intro 3 ?_
           refine ex_both h fun y166 h => ?_
           refine rqn_intro 2 ?_
           exact req_intro rfl h
          ·refine rqn_intro 4 ?_
           refine ex_both h fun y167 h => ?_
           refine rqn_intro 2 ?_
           exact req_intro rfl h
        ·refine br_both h (fun hb h => ?_) (fun hb h => ?_)
         ·refine rqn_intro 8 ?_
          refine ex_both h fun y168 h => ?_
          refine rqn_intro 8 ?_
          refine br_both h (fun hb h => ?_) (fun hb h => ?_)
          ·refine rqn_intro 4 ?_
           refine ex_both h fun y169 h => ?_
           refine rqn_intro 2 ?_
           exact req_intro rfl h
          ·refine rqn_intro 6 ?_
           refine br_both h (fun hb h => ?_) (fun hb h => ?_)
           ·refine rqn_intro 3 ?_
            refine ex_both h fun y170 h => ?_
            refine rqn_intro 2 ?_
            exact req_intro rfl h
           ·refine rqn_intro 4 ?_
            refine ex_both h fun y171 h => ?_
            refine rqn_intro 2 ?_
            exact req_intro rfl h
         ·refine br_both h (fun hb h => ?_) (fun hb h => ?_)
          ·refine rqn_intro 9 ?_
           refine ex_both h fun y172 h => ?_
           intro c173 hc173
           refine rqn_intro 8 ?_
           refine ex_both h fun y174 h => ?_
           refine rqn_intro 2 ?_
           exact req_intro (band (band (Nat.beq_refl _) rfl) (band rfl rfl)) h
          ·exact h.elim
      ·refine req_intro rfl ?_
       refine ⟨?_, ?_⟩
       ·refine req_intro rfl ?_
        obtain ⟨q, h⟩ := req_of h
        refine req_intro (band (band_l q) (band_r q)) ?_
        refine ⟨?_, ?_⟩
        ·refine br_both h (fun hb h => ?_) (fun hb h => ?_)
         ·refine ⟨?_, ?_⟩
          ·refine rqn_intro 7 ?_
           refine ex_both h fun y175 h => ?_
           refine rqn_intro 8 ?_
           refine br_both h (fun hb h => ?_) (fun hb h => ?_)
           ·refine rqn_intro 5 ?_
            refine ex_both h fun y176 h => ?_
            refine rqn_intro 2 ?_
            exact req_intro rfl h
           ·refine rqn_intro 6 ?_
            refine br_both h (fun hb h => ?_) (fun hb h => ?_)
            ·refine rqn_intro 4 ?_
             refine ex_both h fun y177 h => ?_
             refine rqn_intro 2 ?_
             exact req_intro rfl h
            ·refine rqn_intro 5 ?_
             refine ex_both h fun y178 h => ?_
             refine rqn_intro 2 ?_
             exact req_intro rfl h
          ·refine rqn_intro 8 ?_
           refine ex_both h fun y179 h => ?_
           refine rqn_intro 8 ?_
           refine br_both h (fun hb h => ?_) (fun hb h => ?_)
           ·refine rqn_intro 4 ?_
            refine ex_both h fun y180 h => ?_
            refine rqn_intro 2 ?_
            exact req_intro rfl h
           ·refine rqn_intro 6 ?_
            refine br_both h (fun hb h => ?_) (fun hb h => ?_)
            ·refine rqn_intro 3 ?_
             refine ex_both h fun y181 h => ?_
             refine rqn_intro 2 ?_
             exact req_intro rfl h
            ·refine rqn_intro 4 ?_
             refine ex_both h fun y182 h => ?_
             refine rqn_intro 2 ?_
             exact req_intro rfl h
         ·refine br_both h (fun hb h => ?_) (fun hb h => ?_)
          ·refine ⟨?_, ?_⟩
           ·refine rqn_intro 8 ?_
            refine ex_both h fun y183 h => ?_
            refine rqn_intro 8 ?_
            refine br_both h (fun hb h => ?_) (fun hb h => ?_)
            ·refine rqn_intro 5 ?_
             refine ex_both h fun y184 h => ?_
             refine rqn_intro 2 ?_
             exact req_intro rfl h
            ·refine rqn_intro 6 ?_
             refine br_both h (fun hb h => ?_) (fun hb h => ?_)
             ·refine rqn_intro 4 ?_
              refine ex_both h fun y185 h => ?_
              refine rqn_intro 2 ?_
              exact req_intro rfl h
             ·refine rqn_intro 5 ?_
              refine ex_both h fun y186 h => ?_
              refine rqn_intro 2 ?_
              exact req_intro rfl h
           ·refine rqn_intro 9 ?_
            refine ex_both h fun y187 h => ?_
            refine rqn_intro 8 ?_
            refine br_both h (fun hb h => ?_) (fun hb h => ?_)
            ·refine rqn_intro 4 ?_
             refine ex_both h fun y188 h => ?_
             refine rqn_intro 2 ?_
             exact req_intro rfl h
            ·refine rqn_intro 6 ?_
             refine br_both h (fun hb h => ?_) (fun hb h => ?_)
             ·refine rqn_intro 3 ?_
              refine ex_both h fun y189 h => ?_
              refine rqn_intro 2 ?_
              exact req_intro rfl h
             ·refine rqn_intro 4 ?_
              refine ex_both h fun y190 h => ?_
              refine rqn_intro 2 ?_
              exact req_intro rfl h
          ·refine br_both h (fun hb h => ?_) (fun hb h => ?_)
           ·refine ⟨?_, ?_⟩
            ·refine rqn_intro 9 ?_
             refine ex_both h fun y191 h => ?_
             intro c192 hc192
             refine rqn_intro 9 ?_
             refine ex_both h fun y193 h => ?_
             refine rqn_intro 2 ?_
             exact req_intro (band (band (Nat.beq_refl _) rfl) (band rfl rfl)) h
            ·refine rqn_intro 10 ?_
             refine ex_both h fun y194 h => ?_
             intro c195 hc195
             refine rqn_intro 8 ?_
             refine ex_both h fun y196 h => ?_
             refine rqn_intro 2 ?_
             exact req_intro (band (band (Nat.beq_refl _) rfl) (band rfl rfl)) h
           ·exact h.elim
        ·refine req_intro rfl ?_
         refine br_both h (fun hb h => ?_) (fun hb h => ?_)
         ·refine rqn_intro 7 ?_
          refine ex_both h fun y197 h => ?_
          refine rqn_intro 8 ?_
          refine br_both h (fun hb h => ?_) (fun hb h => ?_)
          ·refine rqn_intro 4 ?_
           refine ex_both h fun y198 h => ?_
           refine rqn_intro 2 ?_
           exact req_intro rfl h
          ·refine rqn_intro 6 ?_
           refine br_both h (fun hb h => ?_) (fun hb h => ?_)
           ·refine rqn_intro 3 ?_
            refine ex_both h fun y199 h => ?_
            refine rqn_intro 2 ?_
            exact req_intro rfl h
           ·refine rqn_intro 4 ?_
            refine ex_both h fun y200 h => ?_
            refine rqn_intro 2 ?_
            exact req_intro rfl h
         ·refine br_both h (fun hb h => ?_) (fun hb h => ?_)
          ·refine rqn_intro 8 ?_
           refine ex_both h fun y201 h => ?_
           refine rqn_intro 8 ?_
           refine br_both h (fun hb h => ?_) (fun hb h => ?_)
           ·refine rqn_intro 4 ?_
            refine ex_both h fun y202 h => ?_
            refine rqn_intro 2 ?_
            exact req_intro rfl h
           ·refine rqn_intro 6 ?_
            refine br_both h (fun hb h => ?_) (fun hb h => ?_)
            ·refine rqn_intro 3 ?_
             refine ex_both h fun y203 h => ?_
             refine rqn_intro 2 ?_
             exact req_intro rfl h
            ·refine rqn_intro 4 ?_
             refine ex_both h fun y204 h => ?_
             refine rqn_intro 2 ?_
             exact req_intro rfl h
          ·refine br_both h (fun hb h => ?_) (fun hb h => ?_)
           ·refine rqn_intro 9 ?_
            refine ex_both h fun y205 h => ?_
            intro c206 hc206
            refine rqn_intro 8 ?_
            refine ex_both h fun y207 h => ?_
            refine rqn_intro 2 ?_
            exact req_intro (band (band (Nat.beq_refl _) rfl) (band rfl rfl)) h
           ·exact h.elim
       ·refine rqn_intro 2 ?_
        obtain ⟨q, h⟩ := req_of h
        refine req_intro (band (band_l q) (band_r q)) ?_
        refine br_both h (fun hb h => ?_) (fun hb h => ?_)
        ·refine rqn_intro 7 ?_
         refine ex_both h fun y208 h => ?_
         refine rqn_intro 8 ?_
         refine br_both h (fun hb h => ?_) (fun hb h => ?_)
         ·refine rqn_intro 4 ?_
          refine ex_both h fun y209 h => ?_
          refine rqn_intro 2 ?_
          exact req_intro rfl h
         ·refine rqn_intro 6 ?_
          refine br_both h (fun hb h => ?_) (fun hb h => ?_)
          ·refine rqn_intro 3 ?_
           refine ex_both h fun y210 h => ?_
           refine rqn_intro 2 ?_
           exact req_intro rfl h
          ·refine rqn_intro 4 ?_
           refine ex_both h fun y211 h => ?_
           refine rqn_intro 2 ?_
           exact req_intro rfl h
        ·refine br_both h (fun hb h => ?_) (fun hb h => ?_)
         ·refine rqn_intro 8 ?_
          refine ex_both h fun y212 h => ?_
          refine rqn_intro 8 ?_
          refine br_both h (fun hb h => ?_) (fun hb h => ?_)
          ·refine rqn_intro 4 ?_
           refine ex_both h fun y213 h => ?_
           refine rqn_intro 2 ?_
           exact req_intro rfl h
          ·refine rqn_intro 6 ?_
           refine br_both h (fun hb h => ?_) (fun hb h => ?_)
           ·refine rqn_intro 3 ?_
            refine ex_both h fun y214 h => ?_
            refine rqn_intro 2 ?_
            exact req_intro rfl h
           ·refine rqn_intro 4 ?_
            refine ex_both h fun y215 h => ?_
            refine rqn_intro 2 ?_
            exact req_intro rfl h
         ·refine br_both h (fun hb h => ?_) (fun hb h => ?_)
          ·refine rqn_intro 9 ?_
           refine ex_both h fun y216 h => ?_
           intro c217 hc217
           refine rqn_intro 8 ?_
           refine ex_both h fun y218 h => ?_
           refine rqn_intro 2 ?_
           exact req_intro (band (band (Nat.beq_refl _) rfl) (band rfl rfl)) h
          ·exact h.elim
theorem due_Occur_ok : FxOk Tryd.prog gsT 30 (.cons (.agg (.cons (.int .u32) (.cons .bool (.cons (.int .u64) (.cons (.int .u64) (.cons (.int .u64) (.cons (.int .u64) (.cons (.int .u64) (.cons (.int .i64) (.cons (.int .i64) (.cons (.int .i64) (.cons (.int .i64) (.cons .bool (.cons (.int .i64) (.cons (.int .u64) (.cons (.int .i64) (.cons (.int .i64) (.one (.sl (.int .i64)))))))))))))))))))) (.one (.int .i64))) (.tup (.cons (.sl (.int .i64)) (.one (.int .i64)))) fun x y => due_Occur_R (x.1.1) (x.1.2.1) (x.1.2.2.1) (x.1.2.2.2.1) (x.1.2.2.2.2.1) (x.1.2.2.2.2.2.1) (x.1.2.2.2.2.2.2.1) (x.1.2.2.2.2.2.2.2.1) (x.1.2.2.2.2.2.2.2.2.1) (x.1.2.2.2.2.2.2.2.2.2.1) (x.1.2.2.2.2.2.2.2.2.2.2.1) (x.1.2.2.2.2.2.2.2.2.2.2.2.1) (x.1.2.2.2.2.2.2.2.2.2.2.2.2.1) (x.1.2.2.2.2.2.2.2.2.2.2.2.2.2.1) (x.1.2.2.2.2.2.2.2.2.2.2.2.2.2.2.1) (x.1.2.2.2.2.2.2.2.2.2.2.2.2.2.2.2.1) (x.1.2.2.2.2.2.2.2.2.2.2.2.2.2.2.2.2) (x.2) y := fx_of (c := q30_cx) (ty_ok rfl) (eq_ok rfl) q30_fns follows_ok (ok := okT) (lp := lpT) (n := 60) lp_ok (enters Tryd.func30 (by kernel_rfl) rfl) (fun y => ⟨_, rfl⟩) fun x y h => q30_run _ _ _ _ _ _ _ _ _ _ _ _ _ _ _ _ _ _ y h
noncomputable def q55_cx : Cx := ⟨tyT, [(55, .body Tryd.f55)], gsT, eqT⟩
theorem q55_fns : FnsOk Tryd.prog q55_cx := Fns_assoc ⟨body_ent Tryd.func55 (by kernel_rfl) (by kernel_rfl), trivial⟩
def slices_Clone__int64_int64_R (a0 : List Int) (y : List Int) : Prop :=
  ((Nat.beq (List.length a0) 0 = true → ([] = y)) ∧ (req (Nat.ble ((List.length a0) * 9) 140737488355328) (a0 = y)))
theorem q55_tree (a0 : List Int) (y : List Int) : acall q55_cx okT lpT 60 (.fn 55 [] []) [(V.sl (.int .i64) a0 none)] [] (leafK (.nw (.int .i64) 2) y) =
    (rqn 2 ((Nat.beq (List.length a0) 0 = true → (req true (req true ([] = y)))) ∧ (req true (req ((true && true) && (Nat.ble ((List.length a0) * 9) 140737488355328)) (∀ c1 : Nat, Nat.ble (List.length a0) c1 = true → (req true (req (true && ((Nat.beq (List.length a0) (List.length a0)) && (Nat.beq c1 c1))) (a0 = y)))))))) := by kernel_rfl
theorem q55_run (a0 : List Int) (y : List Int) (h : slices_Clone__int64_int64_R a0 y) : acall q55_cx okT lpT 60 (.fn 55 [] []) [(V.sl (.int .i64) a0 none)] [] (leafK (.nw (.int .i64) 2) y) := by
  refine cast (q55_tree a0 y).symm ?_
  unfold slices_Clone__int64_int64_R at h
  refine rqn_intro 2 ?_
  refine ⟨fun hn => ?_, ?_⟩
  ·replace h := h.1 hn
   refine req_intro rfl ?_
   exact req_intro rfl h
  ·replace h := h.2
   refine req_intro rfl ?_
   obtain ⟨q, h⟩ := req_of h
   refine req_intro (band (band rfl rfl) q) ?_
   intro c1 hc1
   refine req_intro rfl ?_
   exact req_intro (band rfl (band (Nat.beq_refl _) (Nat.beq_refl _))) h
theorem slices_Clone__int64_int64_ok : FxOk Tryd.prog gsT 55 (.one (.sl (.int .i64))) (.nw (.int .i64) 2) fun x y => slices_Clone__int64_int64_R x y := fx_of (c := q55_cx) (ty_ok rfl) (eq_ok rfl) q55_fns follows_ok (ok := okT) (lp := lpT) (n := 60) lp_ok (enters Tryd.func55 (by kernel_rfl) rfl) (fun y => ⟨_, rfl⟩) fun x y h => q55_run _ y h
noncomputable def q28_cx : Cx := ⟨tyT, [(27, .fx (.one (.agg (.cons (.int .u32) (.cons .bool (.cons (.int .u64) (.cons (.int .u64) (.cons (.int .u64) (.cons (.int .u64) (.cons (.int .u64) (.cons (.int .i64) (.cons (.int .i64) (.cons (.int .i64) (.cons (.int .i64) (.cons .bool (.cons (.int .i64) (.cons (.int .u64) (.cons (.int .i64) (.cons (.int .i64) (.one (.sl (.int .i64))))))))))))))))))))) (.int .i64) fun x y => table_CheckRow_R (x.1) (x.2.1) (x.2.2.1) (x.2.2.2.1) (x.2.2.2.2.1) (x.2.2.2.2.2.1) (x.2.2.2.2.2.2.1) (x.2.2.2.2.2.2.2.1) (x.2.2.2.2.2.2.2.2.1) (x.2.2.2.2.2.2.2.2.2.1) (x.2.2.2.2.2.2.2.2.2.2.1) (x.2.2.2.2.2.2.2.2.2.2.2.1) (x.2.2.2.2.2.2.2.2.2.2.2.2.1) (x.2.2.2.2.2.2.2.2.2.2.2.2.2.1) (x.2.2.2.2.2.2.2.2.2.2.2.2.2.2.1) (x.2.2.2.2.2.2.2.2.2.2.2.2.2.2.2.1) (x.2.2.2.2.2.2.2.2.2.2.2.2.2.2.2.2) y),
  (28, .body Tryd.f28),
  (30, .fx (.cons (.agg (.cons (.int .u32) (.cons .bool (.cons (.int .u64) (.cons (.int .u64) (.cons (.int .u64) (.cons (.int .u64) (.cons (.int .u64) (.cons (.int .i64) (.cons (.int .i64) (.cons (.int .i64) (.cons (.int .i64) (.cons .bool (.cons (.int .i64) (.cons (.int .u64) (.cons (.int .i64) (.cons (.int .i64) (.one (.sl (.int .i64)))))))))))))))))))) (.one (.int .i64))) (.tup (.cons (.sl (.int .i64)) (.one (.int .i64)))) fun x y => due_Occur_R (x.1.1) (x.1.2.1) (x.1.2.2.1) (x.1.2.2.2.1) (x.1.2.2.2.2.1) (x.1.2.2.2.2.2.1) (x.1.2.2.2.2.2.2.1) (x.1.2.2.2.2.2.2.2.1) (x.1.2.2.2.2.2.2.2.2.1) (x.1.2.2.2.2.2.2.2.2.2.1) (x.1.2.2.2.2.2.2.2.2.2.2.1) (x.1.2.2.2.2.2.2.2.2.2.2.2.1) (x.1.2.2.2.2.2.2.2.2.2.2.2.2.1) (x.1.2.2.2.2.2.2.2.2.2.2.2.2.2.1) (x.1.2.2.2.2.2.2.2.2.2.2.2.2.2.2.1) (x.1.2.2.2.2.2.2.2.2.2.2.2.2.2.2.2.1) (x.1.2.2.2.2.2.2.2.2.2.2.2.2.2.2.2.2) (x.2) y),
  (55, .fx (.one (.sl (.int .i64))) (.nw (.int .i64) 2) fun x y => slices_Clone__int64_int64_R x y),
  (58, .fx (.one (.int .i64)) .bool fun x y => times_May_R x y),
  (60, .body Tryd.f60),
  (61, .body Tryd.f61),
  (62, .body Tryd.f62),
  (63, .body Tryd.f63)], gsT, eqT⟩
theorem q28_fns : FnsOk Tryd.prog q28_cx := Fns_assoc ⟨table_CheckRow_ok, body_ent Tryd.func28 (by kernel_rfl) (by kernel_rfl), due_Occur_ok, slices_Clone__int64_int64_ok, times_May_ok, body_ent Tryd.func60 (by kernel_rfl) (by kernel_rfl), body_ent Tryd.func61 (by kernel_rfl) (by kernel_rfl), body_ent Tryd.func62 (by kernel_rfl) (by kernel_rfl), body_ent Tryd.func63 (by kernel_rfl) (by kernel_rfl), trivial⟩
noncomputable def q28_0_body : Code := subC [1, 1, 1, 1, 0, 1, 0, 0] (bodyOf Tryd.f28)
abbrev due_Step_l0_Z : Type := List Int × Int × Bool × Int × Int × Int × Int × Int × Int × Int × Int × Int × Bool × Int × Int × Int × Int × Int × Int × Int × Int × Int × Int × List Int × Int × Int
abbrev due_Step_l0_Y : Type := List Int × Int × Int × Int × Int × Int × Int × Int
abbrev q28_0_C : Type := Nat
abbrev q28_0_Q : Type := Unit
noncomputable def q28_0_st (z6 : due_Step_l0_Z) (z6q : q28_0_Q) (z6c : q28_0_C) : S := ⟨[(2, (vu (z6.2.2.2.2.2.2.2.2.2.2.2.2.2.2.2.2.2.2.2.2.2.1))), (6, (V.ptr 1 0)), (10, (vi (z6.2.2.2.2.2.2.2.2.2.2.2.2.2.2.2.2.2.2.2.2.2.2.1))), (11, (V.ptr 4 0)), (35, (V.sl (.int .i64) (z6.2.2.2.2.2.2.2.2.2.2.2.2.2.2.2.2.2.2.2.2.2.2.2.1) none)), (36, (vi (z6.2.2.2.2.2.2.2.2.2.2.2.2.2.2.2.2.2.2.2.2.2.2.2.2.1))), (37, (vi (z6.2.2.2.2.2.2.2.2.2.2.2.2.2.2.2.2.2.2.2.2.2.2.2.2.2)))], [Blk.dead, (Blk.cells [(V.int .u32 0), (vb false), (vu 0), (vu 0), (vu 0), (vu 0), (vu 0), (vi 0), (vi 0), (vi 0), (vi 0), (vb false), (vi 0), (vu 0), (vi 0), (vi 0), (V.old (.slice none 0 0))]), Blk.dead, Blk.dead, (Blk.cells [(V.int .u32 (z6.2.1)), (vb (z6.2.2.1)), (vu (z6.2.2.2.1)), (vu (z6.2.2.2.2.1)), (vu (z6.2.2.2.2.2.1)), (vu (z6.2.2.2.2.2.2.1)), (vu (z6.2.2.2.2.2.2.2.1)), (vi (z6.2.2.2.2.2.2.2.2.1)), (vi (z6.2.2.2.2.2.2.2.2.2.1)), (vi (z6.2.2.2.2.2.2.2.2.2.2.1)), (vi (z6.2.2.2.2.2.2.2.2.2.2.2.1)), (vb (z6.2.2.2.2.2.2.2.2.2.2.2.2.1)), (vi (z6.2.2.2.2.2.2.2.2.2.2.2.2.2.1)), (vu (z6.2.2.2.2.2.2.2.2.2.2.2.2.2.2.1)), (vi (z6.2.2.2.2.2.2.2.2.2.2.2.2.2.2.2.1)), (vi (z6.2.2.2.2.2.2.2.2.2.2.2.2.2.2.2.2.1)), (V.row 5 1 (List.length (z6.1)) z6c), (vu (z6.2.2.2.2.2.2.2.2.2.2.2.2.2.2.2.2.2.1)), (V.int .u32 (z6.2.2.2.2.2.2.2.2.2.2.2.2.2.2.2.2.2.2.1)), (vi (z6.2.2.2.2.2.2.2.2.2.2.2.2.2.2.2.2.2.2.2.1)), (vi 0), (vi (z6.2.2.2.2.2.2.2.2.2.2.2.2.2.2.2.2.2.2.2.2.1))]), (Blk.row (.int .i64) (z6.1) 2 z6c)], []⟩
def q28_0_Kp (K : Ret → S → Prop) (z6x1 : Int) (z6x2 : Bool) (z6x3 : Int) (z6x4 : Int) (z6x5 : Int) (z6x6 : Int) (z6x7 : Int) (z6x8 : Int) (z6x9 : Int) (z6x10 : Int) (z6x11 : Int) (z6x12 : Bool) (z6x13 : Int) (z6x22 : Int) (z6q : q28_0_Q) (y7 : due_Step_l0_Y) : Prop := (∀ y7c : Nat, K (.exit 0) ⟨[(6, (V.ptr 1 0)), (10, (vi z6x22)), (11, (V.ptr 4 0))], [Blk.dead, (Blk.cells [(V.int .u32 0), (vb false), (vu 0), (vu 0), (vu 0), (vu 0), (vu 0), (vi 0), (vi 0), (vi 0), (vi 0), (vb false), (vi 0), (vu 0), (vi 0), (vi 0), (V.old (.slice none 0 0))]), Blk.dead, Blk.dead, (Blk.cells [(V.int .u32 z6x1), (vb z6x2), (vu z6x3), (vu z6x4), (vu z6x5), (vu z6x6), (vu z6x7), (vi z6x8), (vi z6x9), (vi z6x10), (vi z6x11), (vb z6x12), (vi z6x13), (vu (y7.2.1)), (vi (y7.2.2.1)), (vi (y7.2.2.2.1)), (V.row 5 1 (List.length (y7.1)) y7c), (vu (y7.2.2.2.2.1)), (V.int .u32 (y7.2.2.2.2.2.1)), (vi (y7.2.2.2.2.2.2.1)), (vi 0), (vi (y7.2.2.2.2.2.2.2))]), (Blk.row (.int .i64) (y7.1) 2 y7c)], []⟩)
def q28_0_K (K : Ret → S → Prop) (z6 : due_Step_l0_Z) (z6q : q28_0_Q) (y7 : due_Step_l0_Y) : Prop := q28_0_Kp K (z6.2.1) (z6.2.2.1) (z6.2.2.2.1) (z6.2.2.2.2.1) (z6.2.2.2.2.2.1) (z6.2.2.2.2.2.2.1) (z6.2.2.2.2.2.2.2.1) (z6.2.2.2.2.2.2.2.2.1) (z6.2.2.2.2.2.2.2.2.2.1) (z6.2.2.2.2.2.2.2.2.2.2.1) (z6.2.2.2.2.2.2.2.2.2.2.2.1) (z6.2.2.2.2.2.2.2.2.2.2.2.2.1) (z6.2.2.2.2.2.2.2.2.2.2.2.2.2.1) (z6.2.2.2.2.2.2.2.2.2.2.2.2.2.2.2.2.2.2.2.2.2.2.1) z6q y7
def due_Step_l0 : Nat → due_Step_l0_Z → due_Step_l0_Y → Prop
  | 0, _, _ => False
  | k + 1, (z6x0, z6x1, z6x2, z6x3, z6x4, z6x5, z6x6, z6x7, z6x8, z6x9, z6x10, z6x11, z6x12, z6x13, z6x14, z6x15, z6x16, z6x17, z6x18, z6x19, z6x20, z6x21, z6x22, z6x23, z6x24, z6x25), y7_ => (br (decide (z6x25 < z6x24)) (req ((decide (0 ≤ z6x25)) && (decide (z6x25 < (((List.length z6x23) : Nat) : Int)))) (br ((z6x14 == 0) && ((z6x15 == 0) && ((z6x16 == 0) && true))) (due_Step_l0 k (z6x0, z6x1, z6x2, z6x3, z6x4, z6x5, z6x6, z6x7, z6x8, z6x9, z6x10, z6x11, z6x12, z6x13, z6x21, (List.getD z6x23 (Int.toNat z6x25) 0), 0, z6x21, z6x1, (List.getD z6x23 (Int.toNat z6x25) 0), 1, z6x21, z6x22, z6x23, z6x24, (IntKind.wrap .i64 (z6x25 + 1))) y7_) (br (z6x9 == 1) (br (decide ((((List.length z6x0) : Nat) : Int) < 3)) (req (Nat.ble ((List.length (z6x0 ++ [(List.getD z6x23 (Int.toNat z6x25) 0)])) * 9) 140737488355328) (due_Step_l0 k ((z6x0 ++ [(List.getD z6x23 (Int.toNat z6x25) 0)]), z6x1, z6x2, z6x3, z6x4, z6x5, z6x6, z6x7, z6x8, z6x9, z6x10, z6x11, z6x12, z6x13, z6x14, z6x15, z6x16, z6x17, z6x18, z6x19, z6x20, z6x21, z6x22, z6x23, z6x24, (IntKind.wrap .i64 (z6x25 + 1))) y7_)) (due_Step_l0 k (z6x0, z6x1, z6x2, z6x3, z6x4, z6x5, z6x6, z6x7, z6x8, z6x9, z6x10, z6x11, z6x12, z6x13, z6x14, z6x15, z6x16, z6x17, z6x18, z6x19, z6x20, z6x21, z6x22, z6x23, z6x24, (IntKind.wrap .i64 (z6x25 + 1))) y7_)) (due_Step_l0 k (z6x0, z6x1, z6x2, z6x3, z6x4, z6x5, z6x6, z6x7, z6x8, z6x9, z6x10, z6x11, z6x12, z6x13, z6x14, z6x15, z6x16, z6x17, z6x18, z6x19, z6x20, z6x21, z6x22, z6x23, z6x24, (IntKind.wrap .i64 (z6x25 + 1))) y7_)))) ((z6x0, z6x14, z6x15, z6x16, z6x17, z6x18, z6x19, z6x20) = y7_))
def due_Step_l0_L (z : due_Step_l0_Z) (y : due_Step_l0_Y) : Prop := ∃ k, due_Step_l0 k z y
noncomputable def q28_0_lp : Lp := .auto none q28_0_body (loopG 5 q28_0_st (fun z y => ∃ k, due_Step_l0 k z y) q28_0_K)
noncomputable def q28_lp : Nat → FuncId → Nat → Nat → Lp := lpTab [(28, 6, 5, 2, q28_0_lp)]
theorem q28_0_round (n : Nat) (z6x0 : List Int) (z6x1 : Int) (z6x2 : Bool) (z6x3 : Int) (z6x4 : Int) (z6x5 : Int) (z6x6 : Int) (z6x7 : Int) (z6x8 : Int) (z6x9 : Int) (z6x10 : Int) (z6x11 : Int) (z6x12 : Bool) (z6x13 : Int) (z6x14 : Int) (z6x15 : Int) (z6x16 : Int) (z6x17 : Int) (z6x18 : Int) (z6x19 : Int) (z6x20 : Int) (z6x21 : Int) (z6x22 : Int) (z6x23 : List Int) (z6x24 : Int) (z6x25 : Int) (z6k0 : Nat) (K : Ret → S → Prop) (next : S → Prop) : acode q28_cx 28 (acall q28_cx okT q28_lp (n + 2)) (okT 28) (q28_lp (n + 2) 28) none q28_0_body (iterK (wkK 5 K) next) (q28_0_st (z6x0, z6x1, z6x2, z6x3, z6x4, z6x5, z6x6, z6x7, z6x8, z6x9, z6x10, z6x11, z6x12, z6x13, z6x14, z6x15, z6x16, z6x17, z6x18, z6x19, z6x20, z6x21, z6x22, z6x23, z6x24, z6x25) () z6k0) =
    (req true (br (decide (z6x25 < z6x24)) (req ((decide (0 ≤ z6x25)) && (decide (z6x25 < (((List.length z6x23) : Nat) : Int)))) (rqn 13 (br ((z6x14 == 0) && ((z6x15 == 0) && ((z6x16 == 0) && true))) (rqn 21 (an 3 (req true (an 2 (req true (an 1 (rqn 8 (next ⟨[(2, (vu z6x21)), (6, (V.ptr 1 0)), (10, (vi z6x22)), (11, (V.ptr 4 0)), (35, (V.sl (.int .i64) z6x23 none)), (36, (vi z6x24)), (37, (vi (wI (z6x25 + 1)))), (38, (vb (decide (z6x25 < z6x24)))), (13, (vi (List.getD z6x23 (Int.toNat z6x25) 0)))], [Blk.dead, (Blk.cells [(V.int .u32 0), (vb false), (vu 0), (vu 0), (vu 0), (vu 0), (vu 0), (vi 0), (vi 0), (vi 0), (vi 0), (vb false), (vi 0), (vu 0), (vi 0), (vi 0), (V.old (.slice none 0 0))]), Blk.dead, Blk.dead, (Blk.cells [(V.int .u32 z6x1), (vb z6x2), (vu z6x3), (vu z6x4), (vu z6x5), (vu z6x6), (vu z6x7), (vi z6x8), (vi z6x9), (vi z6x10), (vi z6x11), (vb z6x12), (vi z6x13), (vu z6x21), (vi (List.getD z6x23 (Int.toNat z6x25) 0)), (vi 0), (V.row 5 1 (List.length z6x0) z6k0), (vu z6x21), (V.int .u32 z6x1), (vi (List.getD z6x23 (Int.toNat z6x25) 0)), (vi 0), (vi 1)]), (Blk.row (.int .i64) z6x0 2 z6k0)], []⟩)))))))) (rqn 8 (br (z6x9 == 1) (rqn 9 (br (decide ((((List.length z6x0) : Nat) : Int) < 3)) (rqn 7 (req (((((true && true) && true) && (Nat.beq (List.length z6x0) (List.length z6x0))) && (Nat.beq z6k0 z6k0)) && (Nat.ble ((List.length (z6x0 ++ [(List.getD z6x23 (Int.toNat z6x25) 0)])) * 9) 140737488355328)) (∀ c8 : Nat, Nat.ble (List.length (z6x0 ++ [(List.getD z6x23 (Int.toNat z6x25) 0)])) c8 = true → (rqn 5 (next ⟨[(2, (vu z6x21)), (6, (V.ptr 1 0)), (10, (vi z6x22)), (11, (V.ptr 4 0)), (35, (V.sl (.int .i64) z6x23 none)), (36, (vi z6x24)), (37, (vi (wI (z6x25 + 1)))), (38, (vb (decide (z6x25 < z6x24)))), (13, (vi (List.getD z6x23 (Int.toNat z6x25) 0)))], [Blk.dead, (Blk.cells [(V.int .u32 0), (vb false), (vu 0), (vu 0), (vu 0), (vu 0), (vu 0), (vi 0), (vi 0), (vi 0), (vi 0), (vb false), (vi 0), (vu 0), (vi 0), (vi 0), (V.old (.slice none 0 0))]), Blk.dead, Blk.dead, (Blk.cells [(V.int .u32 z6x1), (vb z6x2), (vu z6x3), (vu z6x4), (vu z6x5), (vu z6x6), (vu z6x7), (vi z6x8), (vi z6x9), (vi z6x10), (vi z6x11), (vb z6x12), (vi z6x13), (vu z6x14), (vi z6x15), (vi z6x16), (V.row 7 1 (List.length (z6x0 ++ [(List.getD z6x23 (Int.toNat z6x25) 0)])) c8), (vu z6x17), (V.int .u32 z6x18), (vi z6x19), (vi 0), (vi z6x20)]), Blk.dead, (Blk.cells [(vi (List.getD z6x23 (Int.toNat z6x25) 0))]), (Blk.row (.int .i64) (z6x0 ++ [(List.getD z6x23 (Int.toNat z6x25) 0)]) 2 c8)], []⟩))))) (rqn 2 (next ⟨[(2, (vu z6x21)), (6, (V.ptr 1 0)), (10, (vi z6x22)), (11, (V.ptr 4 0)), (35, (V.sl (.int .i64) z6x23 none)), (36, (vi z6x24)), (37, (vi (wI (z6x25 + 1)))), (38, (vb (decide (z6x25 < z6x24)))), (13, (vi (List.getD z6x23 (Int.toNat z6x25) 0)))], [Blk.dead, (Blk.cells [(V.int .u32 0), (vb false), (vu 0), (vu 0), (vu 0), (vu 0), (vu 0), (vi 0), (vi 0), (vi 0), (vi 0), (vb false), (vi 0), (vu 0), (vi 0), (vi 0), (V.old (.slice none 0 0))]), Blk.dead, Blk.dead, (Blk.cells [(V.int .u32 z6x1), (vb z6x2), (vu z6x3), (vu z6x4), (vu z6x5), (vu z6x6), (vu z6x7), (vi z6x8), (vi z6x9), (vi z6x10), (vi z6x11), (vb z6x12), (vi z6x13), (vu z6x14), (vi z6x15), (vi z6x16), (V.row 5 1 (List.length z6x0) z6k0), (vu z6x17), (V.int .u32 z6x18), (vi z6x19), (vi 0), (vi z6x20)]), (Blk.row (.int .i64) z6x0 2 z6k0)], []⟩)))) (rqn 4 (next ⟨[(2, (vu z6x21)), (6, (V.ptr 1 0)), (10, (vi z6x22)), (11, (V.ptr 4 0)), (35, (V.sl (.int .i64) z6x23 none)), (36, (vi z6x24)), (37, (vi (wI (z6x25 + 1)))), (38, (vb (decide (z6x25 < z6x24)))), (13, (vi (List.getD z6x23 (Int.toNat z6x25) 0)))], [Blk.dead, (Blk.cells [(V.int .u32 0), (vb false), (vu 0), (vu 0), (vu 0), (vu 0), (vu 0), (vi 0), (vi 0), (vi 0), (vi 0), (vb false), (vi 0), (vu 0), (vi 0), (vi 0), (V.old (.slice none 0 0))]), Blk.dead, Blk.dead, (Blk.cells [(V.int .u32 z6x1), (vb z6x2), (vu z6x3), (vu z6x4), (vu z6x5), (vu z6x6), (vu z6x7), (vi z6x8), (vi z6x9), (vi z6x10), (vi z6x11), (vb z6x12), (vi z6x13), (vu z6x14), (vi z6x15), (vi z6x16), (V.row 5 1 (List.length z6x0) z6k0), (vu z6x17), (V.int .u32 z6x18), (vi z6x19), (vi 0), (vi z6x20)]), (Blk.row (.int .i64) z6x0 2 z6k0)], []⟩))))))) (wkK 5 K (.exit 0) ⟨[(2, (vu z6x21)), (6, (V.ptr 1 0)), (10, (vi z6x22)), (11, (V.ptr 4 0)), (35, (V.sl (.int .i64) z6x23 none)), (36, (vi z6x24)), (37, (vi z6x25)), (38, (vb (decide (z6x25 < z6x24))))], [Blk.dead, (Blk.cells [(V.int .u32 0), (vb false), (vu 0), (vu 0), (vu 0), (vu 0), (vu 0), (vi 0), (vi 0), (vi 0), (vi 0), (vb false), (vi 0), (vu 0), (vi 0), (vi 0), (V.old (.slice none 0 0))]), Blk.dead, Blk.dead, (Blk.cells [(V.int .u32 z6x1), (vb z6x2), (vu z6x3), (vu z6x4), (vu z6x5), (vu z6x6), (vu z6x7), (vi z6x8), (vi z6x9), (vi z6x10), (vi z6x11), (vb z6x12), (vi z6x13), (vu z6x14), (vi z6x15), (vi z6x16), (V.row 5 1 (List.length z6x0) z6k0), (vu z6x17), (V.int .u32 z6x18), (vi z6x19), (vi 0), (vi z6x20)]), (Blk.row (.int .i64) z6x0 2 z6k0)], []⟩))) := by kernel_rfl
theorem q28_0_step (n k : Nat) (z6x0 : List Int) (z6x1 : Int) (z6x2 : Bool) (z6x3 : Int) (z6x4 : Int) (z6x5 : Int) (z6x6 : Int) (z6x7 : Int) (z6x8 : Int) (z6x9 : Int) (z6x10 : Int) (z6x11 : Int) (z6x12 : Bool) (z6x13 : Int) (z6x14 : Int) (z6x15 : Int) (z6x16 : Int) (z6x17 : Int) (z6x18 : Int) (z6x19 : Int) (z6x20 : Int) (z6x21 : Int) (z6x22 : Int) (z6x23 : List Int) (z6x24 : Int) (z6x25 : Int) (z6k0 : Nat) (y7_ : due_Step_l0_Y) (K : Ret → S → Prop) (h : due_Step_l0 (k + 1) (z6x0, z6x1, z6x2, z6x3, z6x4, z6x5, z6x6, z6x7, z6x8, z6x9, z6x10, z6x11, z6x12, z6x13, z6x14, z6x15, z6x16, z6x17, z6x18, z6x19, z6x20, z6x21, z6x22, z6x23, z6x24, z6x25) y7_) (hK : q28_0_Kp K z6x1 z6x2 z6x3 z6x4 z6x5 z6x6 z6x7 z6x8 z6x9 z6x10 z6x11 z6x12 z6x13 z6x22 () y7_) (next : S → Prop) (hnext : ∀ z' s', due_Step_l0 k z' y7_ → q28_0_K K z' () y7_ → (∃ cc', wk 5 s' (q28_0_st z' () cc')) → next s') : acode q28_cx 28 (acall q28_cx okT q28_lp (n + 2)) (okT 28) (q28_lp (n + 2) 28) none q28_0_body (iterK (wkK 5 K) next) (q28_0_st (z6x0, z6x1, z6x2, z6x3, z6x4, z6x5, z6x6, z6x7, z6x8, z6x9, z6x10, z6x11, z6x12, z6x13, z6x14, z6x15, z6x16, z6x17, z6x18, z6x19, z6x20, z6x21, z6x22, z6x23, z6x24, z6x25) () z6k0) := by
  refine cast (q28_0_round n z6x0 z6x1 z6x2 z6x3 z6x4 z6x5 z6x6 z6x7 z6x8 z6x9 z6x10 z6x11 z6x12 z6x13 z6x14 z6x15 z6x16 z6x17 z6x18 z6x19 z6x20 z6x21 z6x22 z6x23 z6x24 z6x25 z6k0 K next).symm ?_
  simp only [due_Step_l0] at h
  refine req_intro rfl ?_
  refine br_both h (fun hb h => ?_) (fun hb h => ?_)
  ·obtain ⟨q, h⟩ := req_of h
   refine req_intro (band (band_l q) (band_r q)) ?_
   refine rqn_intro 13 ?_
   refine br_both h (fun hb h => ?_) (fun hb h => ?_)
   ·refine rqn_intro 21 ?_
    refine an_intro 3 ?_
    refine req_intro rfl ?_
    refine an_intro 2 ?_
    refine req_intro rfl ?_
    refine an_intro 1 ?_
    refine rqn_intro 8 ?_
    exact hnext (z6x0, z6x1, z6x2, z6x3, z6x4, z6x5, z6x6, z6x7, z6x8, z6x9, z6x10, z6x11, z6x12, z6x13, z6x21, (List.getD z6x23 (Int.toNat z6x25) 0), 0, z6x21, z6x1, (List.getD z6x23 (Int.toNat z6x25) 0), 1, z6x21, z6x22, z6x23, z6x24, (wI (z6x25 + 1))) _ h hK ⟨z6k0, wk_of (Or.inr ⟨⟨Or.inl rfl, Or.inl rfl, Or.inl rfl, Or.inl rfl, Or.inl rfl, Or.inl rfl, Or.inl rfl, trivial⟩, ⟨Or.inl rfl, Or.inl rfl, Or.inl rfl, Or.inl rfl, Or.inl rfl, Or.inl rfl, trivial⟩, rfl, rfl, rfl⟩)⟩
   ·refine rqn_intro 8 ?_
    refine br_both h (fun hb h => ?_) (fun hb h => ?_)
    ·refine rqn_intro 9 ?_
     refine br_both h (fun hb h => ?_) (fun hb h => ?_)
     ·refine rqn_intro 7 ?_
      obtain ⟨q, h⟩ := req_of h
      refine req_intro (band (band (band (band (band rfl rfl) rfl) (Nat.beq_refl _)) (Nat.beq_refl _)) q) ?_
      intro c8 hc8
      refine rqn_intro 5 ?_
      exact hnext ((z6x0 ++ [(List.getD z6x23 (Int.toNat z6x25) 0)]), z6x1, z6x2, z6x3, z6x4, z6x5, z6x6, z6x7, z6x8, z6x9, z6x10, z6x11, z6x12, z6x13, z6x14, z6x15, z6x16, z6x17, z6x18, z6x19, z6x20, z6x21, z6x22, z6x23, z6x24, (wI (z6x25 + 1))) _ h hK ⟨c8, ⟨_, ⟨[(2, (vu z6x21)), (6, (V.ptr 1 0)), (10, (vi z6x22)), (11, (V.ptr 4 0)), (35, (V.sl (.int .i64) z6x23 none)), (36, (vi z6x24)), (37, (vi (wI (z6x25 + 1))))], [Blk.dead, (Blk.cells [(V.int .u32 0), (vb false), (vu 0), (vu 0), (vu 0), (vu 0), (vu 0), (vi 0), (vi 0), (vi 0), (vi 0), (vb false), (vi 0), (vu 0), (vi 0), (vi 0), (V.old (.slice none 0 0))]), Blk.dead, Blk.dead, (Blk.cells [(V.int .u32 z6x1), (vb z6x2), (vu z6x3), (vu z6x4), (vu z6x5), (vu z6x6), (vu z6x7), (vi z6x8), (vi z6x9), (vi z6x10), (vi z6x11), (vb z6x12), (vi z6x13), (vu z6x14), (vi z6x15), (vi z6x16), (V.row 5 1 (List.length (z6x0 ++ [(List.getD z6x23 (Int.toNat z6x25) 0)])) c8), (vu z6x17), (V.int .u32 z6x18), (vi z6x19), (vi 0), (vi z6x20)]), (Blk.row (.int .i64) (z6x0 ++ [(List.getD z6x23 (Int.toNat z6x25) 0)]) 2 c8)], []⟩, ⟨[], rfl, rfl⟩, Or.inr ⟨[0, 1, 2, 3, 4, 7], rfl, rfl, rfl, rfl, rfl, ⟨rfl, rfl, rfl, rfl, rfl, rfl, rfl, trivial⟩, ⟨Or.inl rfl, Or.inr rfl, Or.inl rfl, Or.inl rfl, Or.inr rfl, Or.inr rfl, trivial⟩, rfl, rfl⟩, Or.inr ⟨⟨Or.inl rfl, Or.inl rfl, Or.inl rfl, Or.inl rfl, Or.inl rfl, Or.inl rfl, Or.inl rfl, trivial⟩, ⟨Or.inl rfl, Or.inl rfl, Or.inl rfl, Or.inl rfl, Or.inl rfl, Or.inl rfl, trivial⟩, rfl, rfl, rfl⟩⟩⟩
     ·refine rqn_intro 2 ?_
      exact hnext (z6x0, z6x1, z6x2, z6x3, z6x4, z6x5, z6x6, z6x7, z6x8, z6x9, z6x10, z6x11, z6x12, z6x13, z6x14, z6x15, z6x16, z6x17, z6x18, z6x19, z6x20, z6x21, z6x22, z6x23, z6x24, (wI (z6x25 + 1))) _ h hK ⟨z6k0, wk_of (Or.inr ⟨⟨Or.inl rfl, Or.inl rfl, Or.inl rfl, Or.inl rfl, Or.inl rfl, Or.inl rfl, Or.inl rfl, trivial⟩, ⟨Or.inl rfl, Or.inl rfl, Or.inl rfl, Or.inl rfl, Or.inl rfl, Or.inl rfl, trivial⟩, rfl, rfl, rfl⟩)⟩
    ·refine rqn_intro 4 ?_
     exact hnext (z6x0, z6x1, z6x2, z6x3, z6x4, z6x5, z6x6, z6x7, z6x8, z6x9, z6x10, z6x11, z6x12, z6x13, z6x14, z6x15, z6x16, z6x17, z6x18, z6x19, z6x20, z6x21, z6x22, z6x23, z6x24, (wI (z6x25 + 1))) _ h hK ⟨z6k0, wk_of (Or.inr ⟨⟨Or.inl rfl, Or.inl rfl, Or.inl rfl, Or.inl rfl, Or.inl rfl, Or.inl rfl, Or.inl rfl, trivial⟩, ⟨Or.inl rfl, Or.inl rfl, Or.inl rfl, Or.inl rfl, Or.inl rfl, Or.inl rfl, trivial⟩, rfl, rfl, rfl⟩)⟩
  ·subst h
   refine ⟨_, ?_, hK z6k0⟩
   exact wk_of (Or.inr ⟨⟨Or.inl rfl, Or.inl rfl, Or.inl rfl, trivial⟩, ⟨Or.inl rfl, Or.inl rfl, Or.inl rfl, Or.inl rfl, Or.inl rfl, Or.inl rfl, trivial⟩, rfl, rfl, rfl⟩)
theorem q28_0_ok (n : Nat) : Owed q28_cx okT 28 q28_lp (n + 2) q28_0_lp := loop_owed (fun z y h => h) fun k zz qq cc yy K h hK next hnext => q28_0_step n k zz.1 zz.2.1 zz.2.2.1 zz.2.2.2.1 zz.2.2.2.2.1 zz.2.2.2.2.2.1 zz.2.2.2.2.2.2.1 zz.2.2.2.2.2.2.2.1 zz.2.2.2.2.2.2.2.2.1 zz.2.2.2.2.2.2.2.2.2.1 zz.2.2.2.2.2.2.2.2.2.2.1 zz.2.2.2.2.2.2.2.2.2.2.2.1 zz.2.2.2.2.2.2.2.2.2.2.2.2.1 zz.2.2.2.2.2.2.2.2.2.2.2.2.2.1 zz.2.2.2.2.2.2.2.2.2.2.2.2.2.2.1 zz.2.2.2.2.2.2.2.2.2.2.2.2.2.2.2.1 zz.2.2.2.2.2.2.2.2.2.2.2.2.2.2.2.2.1 zz.2.2.2.2.2.2.2.2.2.2.2.2.2.2.2.2.2.1 zz.2.2.2.2.2.2.2.2.2.2.2.2.2.2.2.2.2.2.1 zz.2.2.2.2.2.2.2.2.2.2.2.2.2.2.2.2.2.2.2.1 zz.2.2.2.2.2.2.2.2.2.2.2.2.2.2.2.2.2.2.2.2.1 zz.2.2.2.2.2.2.2.2.2.2.2.2.2.2.2.2.2.2.2.2.2.1 zz.2.2.2.2.2.2.2.2.2.2.2.2.2.2.2.2.2.2.2.2.2.2.1 zz.2.2.2.2.2.2.2.2.2.2.2.2.2.2.2.2.2.2.2.2.2.2.2.1 zz.2.2.2.2.2.2.2.2.2.2.2.2.2.2.2.2.2.2.2.2.2.2.2.2.1 zz.2.2.2.2.2.2.2.2.2.2.2.2.2.2.2.2.2.2.2.2.2.2.2.2.2 cc yy K h hK next hnext
theorem q28_lpok : LpOk q28_cx okT q28_lp := LpOk_tab ⟨q28_0_ok, trivial⟩
def due_Step_R (a0 : Int) (a1 : Bool) (a2 : Int) (a3 : Int) (a4 : Int) (a5 : Int) (a6 : Int) (a7 : Int) (a8 : Int) (a9 : Int) (a10 : Int) (a11 : Bool) (a12 : Int) (a13 : Int) (a14 : Int) (a15 : Int) (a16 : List Int) (a17 : Int) (a18 : Int) (y : (Int × Bool × Int × Int × Int × Int × Int × Int × Int × Int × Int × Bool × Int × Int × Int × Int × List Int) × (List (Int × Int × Int × Int)) × Int) : Prop :=
  (∃ y1 : Int, (table_CheckRow_R a0 a1 a2 a3 a4 a5 a6 a7 a8 a9 a10 a11 a12 a13 a14 a15 a16 y1) ∧ (br (y1 != 0) (((0, (false, (0, (0, (0, (0, (0, (0, (0, (0, (0, (false, (0, (0, (0, (0, [])))))))))))))))), ([], 230)) = y) (∃ y2 : Bool, (times_May_R a17 y2) ∧ (br (!y2) (((0, (false, (0, (0, (0, (0, (0, (0, (0, (0, (0, (false, (0, (0, (0, (0, [])))))))))))))))), ([], 230)) = y) (br (a18 == 0) (((0, (false, (0, (0, (0, (0, (0, (0, (0, (0, (0, (false, (0, (0, (0, (0, [])))))))))))))))), ([], 230)) = y) (∃ y3 : List Int × Int, (due_Occur_R a0 a1 a2 a3 a4 a5 a6 a7 a8 a9 a10 a11 a12 a13 a14 a15 a16 a17 y3) ∧ (∃ y4 : List Int, (slices_Clone__int64_int64_R a16 y4) ∧ (∃ y10 : due_Step_l0_Y, due_Step_l0_L (y4, a0, a1, a2, a3, a4, a5, a6, a7, a8, a9, a10, a11, a12, a13, a14, a15, 0, 0, 0, 0, a18, (y3.2), (y3.1), (((List.length (y3.1)) : Nat) : Int), 0) y10 ∧ (req ((((decide (0 ≤ (y10.2.2.2.2.2.2.2))) && (Nat.ble (Int.toNat (y10.2.2.2.2.2.2.2)) 1)) && (decide (0 ≤ (y10.2.2.2.2.2.2.2)))) && (Nat.ble 0 (Int.toNat (y10.2.2.2.2.2.2.2)))) (req (Nat.ble ((Int.toNat (y10.2.2.2.2.2.2.2)) - 0) 1) (((a0, (a1, (a2, (a3, (a4, (a5, (a6, (a7, (a8, (a9, (a10, (a11, ((y3.2), ((y10.2.1), ((y10.2.2.1), ((y10.2.2.2.1), (y10.1))))))))))))))))), ((List.take ((Int.toNat (y10.2.2.2.2.2.2.2)) - 0) [((y10.2.2.2.2.1), ((y10.2.2.2.2.2.1), ((y10.2.2.2.2.2.2.1), 0)))]), 0)) = y)))))))))))
theorem q28_tree (a0 : Int) (a1 : Bool) (a2 : Int) (a3 : Int) (a4 : Int) (a5 : Int) (a6 : Int) (a7 : Int) (a8 : Int) (a9 : Int) (a10 : Int) (a11 : Bool) (a12 : Int) (a13 : Int) (a14 : Int) (a15 : Int) (a16 : List Int) (a17 : Int) (a18 : Int) (y : (Int × Bool × Int × Int × Int × Int × Int × Int × Int × Int × Int × Bool × Int × Int × Int × Int × List Int) × (List (Int × Int × Int × Int)) × Int) : acall q28_cx okT q28_lp 60 (.fn 28 [] []) [(V.agg [(V.int .u32 a0), (V.bool a1), (V.int .u64 a2), (V.int .u64 a3), (V.int .u64 a4), (V.int .u64 a5), (V.int .u64 a6), (V.int .i64 a7), (V.int .i64 a8), (V.int .i64 a9), (V.int .i64 a10), (V.bool a11), (V.int .i64 a12), (V.int .u64 a13), (V.int .i64 a14), (V.int .i64 a15), (V.sl (.int .i64) a16 none)]), (V.int .i64 a17), (V.int .u64 a18)] [] (leafK (.tup (.cons (.agg (.cons (.int .u32) (.cons .bool (.cons (.int .u64) (.cons (.int .u64) (.cons (.int .u64) (.cons (.int .u64) (.cons (.int .u64) (.cons (.int .i64) (.cons (.int .i64) (.cons (.int .i64) (.cons (.int .i64) (.cons .bool (.cons (.int .i64) (.cons (.int .u64) (.cons (.int .i64) (.cons (.int .i64) (.one (.nw (.int .i64) 2))))))))))))))))))) (.cons (.sl (.pr (.int .u64) (.pr (.int .u32) (.pr (.int .i64) (.int .i64))))) (.one (.int .i64))))) y) =
    (rqn 4 (∃ y1 : Int, (table_CheckRow_R a0 a1 a2 a3 a4 a5 a6 a7 a8 a9 a10 a11 a12 a13 a14 a15 a16 y1) ∧ (rqn 2 (br (y1 != 0) (rqn 6 (req true (((0, (false, (0, (0, (0, (0, (0, (0, (0, (0, (0, (false, (0, (0, (0, (0, [])))))))))))))))), ([], 230)) = y))) (rqn 2 (∃ y2 : Bool, (times_May_R a17 y2) ∧ (rqn 3 (br (!y2) (rqn 4 (req true (((0, (false, (0, (0, (0, (0, (0, (0, (0, (0, (0, (false, (0, (0, (0, (0, [])))))))))))))))), ([], 230)) = y))) (rqn 3 (br (a18 == 0) (rqn 3 (req true (((0, (false, (0, (0, (0, (0, (0, (0, (0, (0, (0, (false, (0, (0, (0, (0, [])))))))))))))))), ([], 230)) = y))) (rqn 3 (∃ y3 : List Int × Int, (due_Occur_R a0 a1 a2 a3 a4 a5 a6 a7 a8 a9 a10 a11 a12 a13 a14 a15 a16 a17 y3) ∧ (rqn 10 (∃ y4 : List Int, (slices_Clone__int64_int64_R a16 y4) ∧ (∀ c5 : Nat, Nat.ble (List.length y4) c5 = true → (rqn 8 (((none : Option Nat) = (none : Option Nat)) ∧ (q28_0_body = q28_0_body) ∧ ∃ z9 : due_Step_l0_Z, ∃ z9q : q28_0_Q, ∃ y10 : due_Step_l0_Y, (5 = 5) ∧ (∃ zc : q28_0_C, wk 5 ⟨[(0, (V.agg [(V.int .u32 a0), (vb a1), (vu a2), (vu a3), (vu a4), (vu a5), (vu a6), (vi a7), (vi a8), (vi a9), (vi a10), (vb a11), (vi a12), (vu a13), (vi a14), (vi a15), (V.sl (.int .i64) a16 none)])), (1, (vi a17)), (2, (vu a18)), (3, (V.ptr 0 0)), (6, (V.ptr 1 0)), (7, (V.old (.slice none 0 0))), (8, (vi 0)), (25, (vb (a18 == 0))), (9, (V.sl (.int .i64) (y3.1) none)), (10, (vi (y3.2))), (11, (V.ptr 4 0)), (35, (V.sl (.int .i64) (y3.1) none)), (36, (vi (((List.length (y3.1)) : Nat) : Int))), (37, (vi 0))], [(Blk.cells [(V.int .u32 a0), (vb a1), (vu a2), (vu a3), (vu a4), (vu a5), (vu a6), (vi a7), (vi a8), (vi a9), (vi a10), (vb a11), (vi a12), (vu a13), (vi a14), (vi a15), (V.sl (.int .i64) a16 none)]), (Blk.cells [(V.int .u32 0), (vb false), (vu 0), (vu 0), (vu 0), (vu 0), (vu 0), (vi 0), (vi 0), (vi 0), (vi 0), (vb false), (vi 0), (vu 0), (vi 0), (vi 0), (V.old (.slice none 0 0))]), (Blk.cells [(V.int .u32 a0), (vb a1), (vu a2), (vu a3), (vu a4), (vu a5), (vu a6), (vi a7), (vi a8), (vi a9), (vi a10), (vb a11), (vi a12), (vu a13), (vi a14), (vi a15), (V.row 3 1 (List.length y4) c5)]), (Blk.row (.int .i64) y4 2 c5), (Blk.cells [(V.int .u32 a0), (vb a1), (vu a2), (vu a3), (vu a4), (vu a5), (vu a6), (vi a7), (vi a8), (vi a9), (vi a10), (vb a11), (vi a12), (vu a13), (vi a14), (vi a15), (V.row 3 1 (List.length y4) c5), (vu 0), (V.int .u32 0), (vi 0), (vi 0), (vi 0)])], []⟩ (q28_0_st z9 z9q zc)) ∧ (∃ k, due_Step_l0 k z9 y10) ∧ (∀ y10c : Nat, (rqn 9 ((rqn 14 (req (((((true && (decide (0 ≤ (y10.2.2.2.2.2.2.2)))) && (Nat.ble (Int.toNat (y10.2.2.2.2.2.2.2)) 1)) && ((decide (0 ≤ (y10.2.2.2.2.2.2.2))) && (Nat.ble (Int.toNat (y10.2.2.2.2.2.2.2)) (Int.toNat (y10.2.2.2.2.2.2.2))))) && (true && (Nat.ble 0 (Int.toNat (y10.2.2.2.2.2.2.2))))) && true) (rqn 3 (req (((true && (true && (true && (true && (true && (true && (true && (true && (true && (true && (true && (true && (true && (true && (true && (true && true)))))))))))))))) && ((Nat.ble ((Int.toNat (y10.2.2.2.2.2.2.2)) - 0) 1) && true)) && ((true && (true && (true && (true && (true && (true && (true && (true && (true && (true && (true && (true && (true && (true && (true && (true && ((Nat.beq (List.length (y10.1)) (List.length (y10.1))) && (Nat.beq y10c y10c)))))))))))))))))) && (true && true))) ((((z9.2.1), ((z9.2.2.1), ((z9.2.2.2.1), ((z9.2.2.2.2.1), ((z9.2.2.2.2.2.1), ((z9.2.2.2.2.2.2.1), ((z9.2.2.2.2.2.2.2.1), ((z9.2.2.2.2.2.2.2.2.1), ((z9.2.2.2.2.2.2.2.2.2.1), ((z9.2.2.2.2.2.2.2.2.2.2.1), ((z9.2.2.2.2.2.2.2.2.2.2.2.1), ((z9.2.2.2.2.2.2.2.2.2.2.2.2.1), ((z9.2.2.2.2.2.2.2.2.2.2.2.2.2.2.2.2.2.2.2.2.2.2.1), ((y10.2.1), ((y10.2.2.1), ((y10.2.2.2.1), (y10.1))))))))))))))))), ((List.take ((Int.toNat (y10.2.2.2.2.2.2.2)) - 0) [((y10.2.2.2.2.1), ((y10.2.2.2.2.2.1), ((y10.2.2.2.2.2.2.1), 0)))]), 0)) = y))))) ∧ (rqn 13 (req (((((true && (decide (0 ≤ (y10.2.2.2.2.2.2.2)))) && (Nat.ble (Int.toNat (y10.2.2.2.2.2.2.2)) 1)) && ((decide (0 ≤ (y10.2.2.2.2.2.2.2))) && (Nat.ble (Int.toNat (y10.2.2.2.2.2.2.2)) (Int.toNat (y10.2.2.2.2.2.2.2))))) && (true && (Nat.ble 0 (Int.toNat (y10.2.2.2.2.2.2.2))))) && true) (rqn 4 (req (((true && (true && (true && (true && (true && (true && (true && (true && (true && (true && (true && (true && (true && (true && (true && (true && true)))))))))))))))) && ((Nat.ble ((Int.toNat (y10.2.2.2.2.2.2.2)) - 0) 1) && true)) && ((true && (true && (true && (true && (true && (true && (true && (true && (true && (true && (true && (true && (true && (true && (true && (true && ((Nat.beq (List.length (y10.1)) (List.length (y10.1))) && (Nat.beq y10c y10c)))))))))))))))))) && (true && true))) ((((z9.2.1), ((z9.2.2.1), ((z9.2.2.2.1), ((z9.2.2.2.2.1), ((z9.2.2.2.2.2.1), ((z9.2.2.2.2.2.2.1), ((z9.2.2.2.2.2.2.2.1), ((z9.2.2.2.2.2.2.2.2.1), ((z9.2.2.2.2.2.2.2.2.2.1), ((z9.2.2.2.2.2.2.2.2.2.2.1), ((z9.2.2.2.2.2.2.2.2.2.2.2.1), ((z9.2.2.2.2.2.2.2.2.2.2.2.2.1), ((z9.2.2.2.2.2.2.2.2.2.2.2.2.2.2.2.2.2.2.2.2.2.2.1), ((y10.2.1), ((y10.2.2.1), ((y10.2.2.2.1), (y10.1))))))))))))))))), ((List.take ((Int.toNat (y10.2.2.2.2.2.2.2)) - 0) [((y10.2.2.2.2.1), ((y10.2.2.2.2.2.1), ((y10.2.2.2.2.2.2.1), 0)))]), 0)) = y))))))))))))))))))))))))) := by kernel_rfl
theorem q28_run (a0 : Int) (a1 : Bool) (a2 : Int) (a3 : Int) (a4 : Int) (a5 : Int) (a6 : Int) (a7 : Int) (a8 : Int) (a9 : Int) (a10 : Int) (a11 : Bool) (a12 : Int) (a13 : Int) (a14 : Int) (a15 : Int) (a16 : List Int) (a17 : Int) (a18 : Int) (y : (Int × Bool × Int × Int × Int × Int × Int × Int × Int × Int × Int × Bool × Int × Int × Int × Int × List Int) × (List (Int × Int × Int × Int)) × Int) (h : due_Step_R a0 a1 a2 a3 a4 a5 a6 a7 a8 a9 a10 a11 a12 a13 a14 a15 a16 a17 a18 y) : acall q28_cx okT q28_lp 60 (.fn 28 [] []) [(V.agg [(V.int .u32 a0), (V.bool a1), (V.int .u64 a2), (V.int .u64 a3), (V.int .u64 a4), (V.int .u64 a5), (V.int .u64 a6), (V.int .i64 a7), (V.int .i64 a8), (V.int .i64 a9), (V.int .i64 a10), (V.bool a11), (V.int .i64 a12), (V.int .u64 a13), (V.int .i64 a14), (V.int .i64 a15), (V.sl (.int .i64) a16 none)]), (V.int .i64 a17), (V.int .u64 a18)] [] (leafK (.tup (.cons (.agg (.cons (.int .u32) (.cons .bool (.cons (.int .u64) (.cons (.int .u64) (.cons (.int .u64) (.cons (.int .u64) (.cons (.int .u64) (.cons (.int .i64) (.cons (.int .i64) (.cons (.int .i64) (.cons (.int .i64) (.cons .bool (.cons (.int .i64) (.cons (.int .u64) (.cons (.int .i64) (.cons (.int .i64) (.one (.nw (.int .i64) 2))))))))))))))))))) (.cons (.sl (.pr (.int .u64) (.pr (.int .u32) (.pr (.int .i64) (.int .i64))))) (.one (.int .i64))))) y) := by
  refine cast (q28_tree a0 a1 a2 a3 a4 a5 a6 a7 a8 a9 a10 a11 a12 a13 a14 a15 a16 a17 a18 y).symm ?_
  unfold due_Step_R at h
  refine rqn_intro 4 ?_
  refine ex_both h fun y1 h => ?_
  refine rqn_intro 2 ?_
  refine br_both h (fun hb h => ?_) (fun hb h => ?_)
  ·refine rqn_intro 6 ?_
   exact req_intro rfl h
  ·refine rqn_intro 2 ?_
   refine ex_both h fun y2 h => ?_
   refine rqn_intro 3 ?_
   refine br_both h (fun hb h => ?_) (fun hb h => ?_)
   ·refine rqn_intro 4 ?_
    exact req_intro rfl h
   ·refine rqn_intro 3 ?_
    refine br_both h (fun hb h => ?_) (fun hb h => ?_)
    ·refine rqn_intro 3 ?_
     exact req_intro rfl h
    ·refine rqn_intro 3 ?_
     refine ex_both h fun y3 h => ?_
     refine rqn_intro 10 ?_
     refine ex_both h fun y4 h => ?_
     intro c5 hc5
     refine rqn_intro 8 ?_
     obtain ⟨y10, ry10, h⟩ := h
     refine ⟨rfl, rfl, (y4, a0, a1, a2, a3, a4, a5, a6, a7, a8, a9, a10, a11, a12, a13, a14, a15, 0, 0, 0, 0, a18, (y3.2), (y3.1), (((List.length (y3.1)) : Nat) : Int), 0), (), y10, rfl, ⟨c5, ⟨_, ⟨[(2, (vu a18)), (6, (V.ptr 1 0)), (10, (vi (y3.2))), (11, (V.ptr 4 0)), (35, (V.sl (.int .i64) (y3.1) none)), (36, (vi (((List.length (y3.1)) : Nat) : Int))), (37, (vi 0))], [Blk.dead, (Blk.cells [(V.int .u32 0), (vb false), (vu 0), (vu 0), (vu 0), (vu 0), (vu 0), (vi 0), (vi 0), (vi 0), (vi 0), (vb false), (vi 0), (vu 0), (vi 0), (vi 0), (V.old (.slice none 0 0))]), Blk.dead, Blk.dead, (Blk.cells [(V.int .u32 a0), (vb a1), (vu a2), (vu a3), (vu a4), (vu a5), (vu a6), (vi a7), (vi a8), (vi a9), (vi a10), (vb a11), (vi a12), (vu a13), (vi a14), (vi a15), (V.row 5 1 (List.length y4) c5), (vu 0), (V.int .u32 0), (vi 0), (vi 0), (vi 0)]), (Blk.row (.int .i64) y4 2 c5)], []⟩, ⟨[], rfl, rfl⟩, Or.inr ⟨[0, 1, 2, 3, 4, 3], rfl, rfl, rfl, rfl, rfl, ⟨rfl, rfl, rfl, rfl, rfl, rfl, rfl, trivial⟩, ⟨Or.inl rfl, Or.inr rfl, Or.inl rfl, Or.inl rfl, Or.inr rfl, Or.inr rfl, trivial⟩, rfl, rfl⟩, Or.inr ⟨⟨Or.inl rfl, Or.inl rfl, Or.inl rfl, Or.inl rfl, Or.inl rfl, Or.inl rfl, Or.inl rfl, trivial⟩, ⟨Or.inl rfl, Or.inl rfl, Or.inl rfl, Or.inl rfl, Or.inl rfl, Or.inl rfl, trivial⟩, rfl, rfl, rfl⟩⟩⟩, ry10, ?_⟩
     intro y10c
     refine rqn_intro 9 ?_
     refine ⟨?_, ?_⟩
     ·refine rqn_intro 14 ?_
      obtain ⟨q, h⟩ := req_of h
      refine req_intro (band (band (band (band (band rfl (band_l (band_l (band_l q)))) (band_r (band_l (band_l q)))) (band (band_r (band_l q)) (ble_same _))) (band rfl (band_r q))) rfl) ?_
      refine rqn_intro 3 ?_
      obtain ⟨q, h⟩ := req_of h
      exact req_intro (band (band (band rfl (band rfl (band rfl (band rfl (band rfl (band rfl (band rfl (band rfl (band rfl (band rfl (band rfl (band rfl (band rfl (band rfl (band rfl (band rfl rfl)))))))))))))))) (band q rfl)) (band (band rfl (band rfl (band rfl (band rfl (band rfl (band rfl (band rfl (band rfl (band rfl (band rfl (band rfl (band rfl (band rfl (band rfl (band rfl (band rfl (band (Nat.beq_refl _) (Nat.beq_refl _)))))))))))))))))) (band rfl rfl))) h
     ·refine rqn_intro 13 ?_
      obtain ⟨q, h⟩ := req_of h
      refine req_intro (band (band (band (band (band rfl (band_l (band_l (band_l q)))) (band_r (band_l (band_l q)))) (band (band_r (band_l q)) (ble_same _))) (band rfl (band_r q))) rfl) ?_
      refine rqn_intro 4 ?_
      obtain ⟨q, h⟩ := req_of h
      exact req_intro (band (band (band rfl (band rfl (band rfl (band rfl (band rfl (band rfl (band rfl (band rfl (band rfl (band rfl (band rfl (band rfl (band rfl (band rfl (band rfl (band rfl rfl)))))))))))))))) (band q rfl)) (band (band rfl (band rfl (band rfl (band rfl (band rfl (band rfl (band rfl (band rfl (band rfl (band rfl (band rfl (band rfl (band rfl (band rfl (band rfl (band rfl (band (Nat.beq_refl _) (Nat.beq_refl _)))))))))))))))))) (band rfl rfl))) h
theorem due_Step_ok : FxOk Tryd.prog gsT 28 (.cons (.agg (.cons (.int .u32) (.cons .bool (.cons (.int .u64) (.cons (.int .u64) (.cons (.int .u64) (.cons (.int .u64) (.cons (.int .u64) (.cons (.int .i64) (.cons (.int .i64) (.cons (.int .i64) (.cons (.int .i64) (.cons .bool (.cons (.int .i64) (.cons (.int .u64) (.cons (.int .i64) (.cons (.int .i64) (.one (.sl (.int .i64)))))))))))))))))))) (.cons (.int .i64) (.one (.int .u64)))) (.tup (.cons (.agg (.cons (.int .u32) (.cons .bool (.cons (.int .u64) (.cons (.int .u64) (.cons (.int .u64) (.cons (.int .u64) (.cons (.int .u64) (.cons (.int .i64) (.cons (.int .i64) (.cons (.int .i64) (.cons (.int .i64) (.cons .bool (.cons (.int .i64) (.cons (.int .u64) (.cons (.int .i64) (.cons (.int .i64) (.one (.nw (.int .i64) 2))))))))))))))))))) (.cons (.sl (.pr (.int .u64) (.pr (.int .u32) (.pr (.int .i64) (.int .i64))))) (.one (.int .i64))))) fun x y => due_Step_R (x.1.1) (x.1.2.1) (x.1.2.2.1) (x.1.2.2.2.1) (x.1.2.2.2.2.1) (x.1.2.2.2.2.2.1) (x.1.2.2.2.2.2.2.1) (x.1.2.2.2.2.2.2.2.1) (x.1.2.2.2.2.2.2.2.2.1) (x.1.2.2.2.2.2.2.2.2.2.1) (x.1.2.2.2.2.2.2.2.2.2.2.1) (x.1.2.2.2.2.2.2.2.2.2.2.2.1) (x.1.2.2.2.2.2.2.2.2.2.2.2.2.1) (x.1.2.2.2.2.2.2.2.2.2.2.2.2.2.1) (x.1.2.2.2.2.2.2.2.2.2.2.2.2.2.2.1) (x.1.2.2.2.2.2.2.2.2.2.2.2.2.2.2.2.1) (x.1.2.2.2.2.2.2.2.2.2.2.2.2.2.2.2.2) (x.2.1) (x.2.2) y := fx_of (c := q28_cx) (ty_ok rfl) (eq_ok rfl) q28_fns follows_ok (ok := okT) (lp := q28_lp) (n := 60) q28_lpok (enters Tryd.func28 (by kernel_rfl) rfl) (fun y => ⟨_, rfl⟩) fun x y h => q28_run _ _ _ _ _ _ _ _ _ _ _ _ _ _ _ _ _ _ _ y h
noncomputable def q29_cx : Cx := ⟨tyT, [(27, .fx (.one (.agg (.cons (.int .u32) (.cons .bool (.cons (.int .u64) (.cons (.int .u64) (.cons (.int .u64) (.cons (.int .u64) (.cons (.int .u64) (.cons (.int .i64) (.cons (.int .i64) (.cons (.int .i64) (.cons (.int .i64) (.cons .bool (.cons (.int .i64) (.cons (.int .u64) (.cons (.int .i64) (.cons (.int .i64) (.one (.sl (.int .i64))))))))))))))))))))) (.int .i64) fun x y => table_CheckRow_R (x.1) (x.2.1) (x.2.2.1) (x.2.2.2.1) (x.2.2.2.2.1) (x.2.2.2.2.2.1) (x.2.2.2.2.2.2.1) (x.2.2.2.2.2.2.2.1) (x.2.2.2.2.2.2.2.2.1) (x.2.2.2.2.2.2.2.2.2.1) (x.2.2.2.2.2.2.2.2.2.2.1) (x.2.2.2.2.2.2.2.2.2.2.2.1) (x.2.2.2.2.2.2.2.2.2.2.2.2.1) (x.2.2.2.2.2.2.2.2.2.2.2.2.2.1) (x.2.2.2.2.2.2.2.2.2.2.2.2.2.2.1) (x.2.2.2.2.2.2.2.2.2.2.2.2.2.2.2.1) (x.2.2.2.2.2.2.2.2.2.2.2.2.2.2.2.2) y),
  (29, .body Tryd.f29),
  (55, .fx (.one (.sl (.int .i64))) (.nw (.int .i64) 2) fun x y => slices_Clone__int64_int64_R x y),
  (60, .body Tryd.f60),
  (62, .body Tryd.f62),
  (63, .body Tryd.f63)], gsT, eqT⟩
theorem q29_fns : FnsOk Tryd.prog q29_cx := Fns_assoc ⟨table_CheckRow_ok, body_ent Tryd.func29 (by kernel_rfl) (by kernel_rfl), slices_Clone__int64_int64_ok, body_ent Tryd.func60 (by kernel_rfl) (by kernel_rfl), body_ent Tryd.func62 (by kernel_rfl) (by kernel_rfl), body_ent Tryd.func63 (by kernel_rfl) (by kernel_rfl), trivial⟩
def due_End_R (a0 : Int) (a1 : Bool) (a2 : Int) (a3 : Int) (a4 : Int) (a5 : Int) (a6 : Int) (a7 : Int) (a8 : Int) (a9 : Int) (a10 : Int) (a11 : Bool) (a12 : Int) (a13 : Int) (a14 : Int) (a15 : Int) (a16 : List Int) (a17 : Int) (a18 : Bool) (a19 : Int) (y : (Int × Bool × Int × Int × Int × Int × Int × Int × Int × Int × Int × Bool × Int × Int × Int × Int × List Int) × (List (Int × Int × Int × Int)) × Bool × Int) : Prop :=
  (∃ y1 : Int, (table_CheckRow_R a0 a1 a2 a3 a4 a5 a6 a7 a8 a9 a10 a11 a12 a13 a14 a15 a16 y1) ∧ (br (y1 != 0) (((0, (false, (0, (0, (0, (0, (0, (0, (0, (0, (0, (false, (0, (0, (0, (0, [])))))))))))))))), ([], (false, 230))) = y) (br (a19 == 0) (((0, (false, (0, (0, (0, (0, (0, (0, (0, (0, (0, (false, (0, (0, (0, (0, [])))))))))))))))), ([], (false, 230))) = y) (br (a19 == a17) (((0, (false, (0, (0, (0, (0, (0, (0, (0, (0, (0, (false, (0, (0, (0, (0, [])))))))))))))))), ([], (false, 230))) = y) (br (a17 == 0) (((0, (false, (0, (0, (0, (0, (0, (0, (0, (0, (0, (false, (0, (0, (0, (0, [])))))))))))))))), ([], (false, 4))) = y) (br (a13 != a17) (((0, (false, (0, (0, (0, (0, (0, (0, (0, (0, (0, (false, (0, (0, (0, (0, [])))))))))))))))), ([], (false, 4))) = y) (∃ y2 : List Int, (slices_Clone__int64_int64_R a16 y2) ∧ (br (!a18) (br (decide (a15 < a10)) (((a0, (a1, (a2, (a3, (a4, (a5, (a6, (a7, (a8, (a9, (a10, (a11, (a12, (a19, (a14, ((IntKind.wrap .i64 (a15 + 1)), y2)))))))))))))))), ([(a19, (a0, (a14, (IntKind.wrap .i64 (a15 + 1)))))], (false, 0))) = y) (br (decide ((((List.length y2) : Nat) : Int) > 0)) (req (decide (0 < (((List.length y2) : Nat) : Int))) (req (Nat.blt 0 (List.length y2)) (req (Nat.ble 1 (List.length y2)) (req (Nat.ble (1 + ((List.length y2) - 1)) (List.length y2)) (((a0, (a1, (a2, (a3, (a4, (a5, (a6, (a7, (a8, (a9, (a10, (a11, (a12, (a19, ((List.getD y2 0 0), (0, (List.take ((List.length y2) - 1) (List.drop 1 y2)))))))))))))))))), ([(a19, (a0, ((List.getD y2 0 0), 0)))], (false, 0))) = y))))) (br a1 (((a0, (a1, (a2, (a3, (a4, (a5, (a6, (a7, (a8, (a9, (a10, (a11, (a12, (0, (0, (0, y2)))))))))))))))), ([], ((a12 == (-1)), 0))) = y) (((a0, (a1, (a2, (a3, (a4, (a5, (a6, (a7, (a8, (a9, (a10, (a11, (a12, (0, (0, (0, y2)))))))))))))))), ([], (false, 0))) = y)))) (br (decide ((((List.length y2) : Nat) : Int) > 0)) (req (decide (0 < (((List.length y2) : Nat) : Int))) (req (Nat.blt 0 (List.length y2)) (req (Nat.ble 1 (List.length y2)) (req (Nat.ble (1 + ((List.length y2) - 1)) (List.length y2)) (((a0, (a1, (a2, (a3, (a4, (a5, (a6, (a7, (a8, (a9, (a10, (a11, (a12, (a19, ((List.getD y2 0 0), (0, (List.take ((List.length y2) - 1) (List.drop 1 y2)))))))))))))))))), ([(a19, (a0, ((List.getD y2 0 0), 0)))], (false, 0))) = y))))) (br a1 (((a0, (a1, (a2, (a3, (a4, (a5, (a6, (a7, (a8, (a9, (a10, (a11, (a12, (0, (0, (0, y2)))))))))))))))), ([], ((a12 == (-1)), 0))) = y) (((a0, (a1, (a2, (a3, (a4, (a5, (a6, (a7, (a8, (a9, (a10, (a11, (a12, (0, (0, (0, y2)))))))))))))))), ([], (false, 0))) = y)))))))))))
theorem q29_tree (a0 : Int) (a1 : Bool) (a2 : Int) (a3 : Int) (a4 : Int) (a5 : Int) (a6 : Int) (a7 : Int) (a8 : Int) (a9 : Int) (a10 : Int) (a11 : Bool) (a12 : Int) (a13 : Int) (a14 : Int) (a15 : Int) (a16 : List Int) (a17 : Int) (a18 : Bool) (a19 : Int) (y : (Int × Bool × Int × Int × Int × Int × Int × Int × Int × Int × Int × Bool × Int × Int × Int × Int × List Int) × (List (Int × Int × Int × Int)) × Bool × Int) : acall q29_cx okT lpT 60 (.fn 29 [] []) [(V.agg [(V.int .u32 a0), (V.bool a1), (V.int .u64 a2), (V.int .u64 a3), (V.int .u64 a4), (V.int .u64 a5), (V.int .u64 a6), (V.int .i64 a7), (V.int .i64 a8), (V.int .i64 a9), (V.int .i64 a10), (V.bool a11), (V.int .i64 a12), (V.int .u64 a13), (V.int .i64 a14), (V.int .i64 a15), (V.sl (.int .i64) a16 none)]), (V.int .u64 a17), (V.bool a18), (V.int .u64 a19)] [] (leafK (.tup (.cons (.agg (.cons (.int .u32) (.cons .bool (.cons (.int .u64) (.cons (.int .u64) (.cons (.int .u64) (.cons (.int .u64) (.cons (.int .u64) (.cons (.int .i64) (.cons (.int .i64) (.cons (.int .i64) (.cons (.int .i64) (.cons .bool (.cons (.int .i64) (.cons (.int .u64) (.cons (.int .i64) (.cons (.int .i64) (.one (.sl (.int .i64)))))))))))))))))))) (.cons (.sl (.pr (.int .u64) (.pr (.int .u32) (.pr (.int .i64) (.int .i64))))) (.cons .bool (.one (.int .i64)))))) y) =
    (rqn 5 (∃ y1 : Int, (table_CheckRow_R a0 a1 a2 a3 a4 a5 a6 a7 a8 a9 a10 a11 a12 a13 a14 a15 a16 y1) ∧ (rqn 2 (br (y1 != 0) (rqn 8 (req true (((0, (false, (0, (0, (0, (0, (0, (0, (0, (0, (0, (false, (0, (0, (0, (0, [])))))))))))))))), ([], (false, 230))) = y))) (rqn 4 (br (a19 == 0) (rqn 6 (req true (((0, (false, (0, (0, (0, (0, (0, (0, (0, (0, (0, (false, (0, (0, (0, (0, [])))))))))))))))), ([], (false, 230))) = y))) (rqn 5 (br (a19 == a17) (rqn 4 (req true (((0, (false, (0, (0, (0, (0, (0, (0, (0, (0, (0, (false, (0, (0, (0, (0, [])))))))))))))))), ([], (false, 230))) = y))) (rqn 3 (br (a17 == 0) (rqn 6 (req true (((0, (false, (0, (0, (0, (0, (0, (0, (0, (0, (0, (false, (0, (0, (0, (0, [])))))))))))))))), ([], (false, 4))) = y))) (rqn 7 (br (a13 != a17) (rqn 4 (req true (((0, (false, (0, (0, (0, (0, (0, (0, (0, (0, (0, (false, (0, (0, (0, (0, [])))))))))))))))), ([], (false, 4))) = y))) (rqn 5 (∃ y2 : List Int, (slices_Clone__int64_int64_R a16 y2) ∧ (∀ c3 : Nat, Nat.ble (List.length y2) c3 = true → (rqn 10 (br (!a18) (rqn 15 (br (decide (a15 < a10)) (rqn 34 (an 3 (req true (an 2 (req true (an 1 (rqn 11 (an 1 (rqn 19 (req (((true && (true && (true && (true && (true && (true && (true && (true && (true && (true && (true && (true && (true && (true && (true && (true && (Nat.beq (List.length y2) (List.length y2)))))))))))))))))) && (true && (true && true))) && ((true && (true && (true && (true && (true && (true && (true && (true && (true && (true && (true && (true && (true && (true && (true && (true && true)))))))))))))))) && (true && (true && true)))) (((a0, (a1, (a2, (a3, (a4, (a5, (a6, (a7, (a8, (a9, (a10, (a11, (a12, (a19, (a14, ((wI (a15 + 1)), y2)))))))))))))))), ([(a19, (a0, (a14, (wI (a15 + 1)))))], (false, 0))) = y))))))))))) (rqn 8 (br (decide ((((List.length y2) : Nat) : Int) > 0)) (rqn 5 (req (true && (decide (0 < (((List.length y2) : Nat) : Int)))) (req (Nat.blt 0 (List.length y2)) (rqn 7 (req ((((true && true) && (Nat.ble c3 c3)) && (true && (Nat.ble (List.length y2) c3))) && (true && (Nat.ble 1 (List.length y2)))) (rqn 24 (an 3 (req true (an 2 (req true (an 1 (rqn 11 (an 1 (rqn 19 (req (((true && (true && (true && (true && (true && (true && (true && (true && (true && (true && (true && (true && (true && (true && (true && (true && (Nat.ble (1 + ((List.length y2) - 1)) (List.length y2)))))))))))))))))) && (true && (true && true))) && ((true && (true && (true && (true && (true && (true && (true && (true && (true && (true && (true && (true && (true && (true && (true && (true && true)))))))))))))))) && (true && (true && true)))) (((a0, (a1, (a2, (a3, (a4, (a5, (a6, (a7, (a8, (a9, (a10, (a11, (a12, (a19, ((List.getD y2 0 0), (0, (List.take ((List.length y2) - 1) (List.drop 1 y2)))))))))))))))))), ([(a19, (a0, ((List.getD y2 0 0), 0)))], (false, 0))) = y)))))))))))))))) (rqn 12 (br a1 (rqn 13 (an 1 (rqn 19 (req (((true && (true && (true && (true && (true && (true && (true && (true && (true && (true && (true && (true && (true && (true && (true && (true && (Nat.beq (List.length y2) (List.length y2)))))))))))))))))) && (true && (true && true))) && ((true && (true && (true && (true && (true && (true && (true && (true && (true && (true && (true && (true && (true && (true && (true && (true && true)))))))))))))))) && (true && (true && true)))) (((a0, (a1, (a2, (a3, (a4, (a5, (a6, (a7, (a8, (a9, (a10, (a11, (a12, (0, (0, (0, y2)))))))))))))))), ([], ((a12 == (-1)), 0))) = y))))) (rqn 7 (an 1 (rqn 19 (req (((true && (true && (true && (true && (true && (true && (true && (true && (true && (true && (true && (true && (true && (true && (true && (true && (Nat.beq (List.length y2) (List.length y2)))))))))))))))))) && (true && (true && true))) && ((true && (true && (true && (true && (true && (true && (true && (true && (true && (true && (true && (true && (true && (true && (true && (true && true)))))))))))))))) && (true && (true && true)))) (((a0, (a1, (a2, (a3, (a4, (a5, (a6, (a7, (a8, (a9, (a10, (a11, (a12, (0, (0, (0, y2)))))))))))))))), ([], (false, 0))) = y))))))))))) (rqn 10 (br (decide ((((List.length y2) : Nat) : Int) > 0)) (rqn 5 (req (true && (decide (0 < (((List.length y2) : Nat) : Int)))) (req (Nat.blt 0 (List.length y2)) (rqn 7 (req ((((true && true) && (Nat.ble c3 c3)) && (true && (Nat.ble (List.length y2) c3))) && (true && (Nat.ble 1 (List.length y2)))) (rqn 24 (an 3 (req true (an 2 (req true (an 1 (rqn 11 (an 1 (rqn 19 (req (((true && (true && (true && (true && (true && (true && (true && (true && (true && (true && (true && (true && (true && (true && (true && (true && (Nat.ble (1 + ((List.length y2) - 1)) (List.length y2)))))))))))))))))) && (true && (true && true))) && ((true && (true && (true && (true && (true && (true && (true && (true && (true && (true && (true && (true && (true && (true && (true && (true && true)))))))))))))))) && (true && (true && true)))) (((a0, (a1, (a2, (a3, (a4, (a5, (a6, (a7, (a8, (a9, (a10, (a11, (a12, (a19, ((List.getD y2 0 0), (0, (List.take ((List.length y2) - 1) (List.drop 1 y2)))))))))))))))))), ([(a19, (a0, ((List.getD y2 0 0), 0)))], (false, 0))) = y)))))))))))))))) (rqn 12 (br a1 (rqn 13 (an 1 (rqn 19 (req (((true && (true && (true && (true && (true && (true && (true && (true && (true && (true && (true && (true && (true && (true && (true && (true && (Nat.beq (List.length y2) (List.length y2)))))))))))))))))) && (true && (true && true))) && ((true && (true && (true && (true && (true && (true && (true && (true && (true && (true && (true && (true && (true && (true && (true && (true && true)))))))))))))))) && (true && (true && true)))) (((a0, (a1, (a2, (a3, (a4, (a5, (a6, (a7, (a8, (a9, (a10, (a11, (a12, (0, (0, (0, y2)))))))))))))))), ([], ((a12 == (-1)), 0))) = y))))) (rqn 7 (an 1 (rqn 19 (req (((true && (true && (true && (true && (true && (true && (true && (true && (true && (true && (true && (true && (true && (true && (true && (true && (Nat.beq (List.length y2) (List.length y2)))))))))))))))))) && (true && (true && true))) && ((true && (true && (true && (true && (true && (true && (true && (true && (true && (true && (true && (true && (true && (true && (true && (true && true)))))))))))))))) && (true && (true && true)))) (((a0, (a1, (a2, (a3, (a4, (a5, (a6, (a7, (a8, (a9, (a10, (a11, (a12, (0, (0, (0, y2)))))))))))))))), ([], (false, 0))) = y)))))))))))))))))))))))))) := by kernel_rfl
theorem q29_run (a0 : Int) (a1 : Bool) (a2 : Int) (a3 : Int) (a4 : Int) (a5 : Int) (a6 : Int) (a7 : Int) (a8 : Int) (a9 : Int) (a10 : Int) (a11 : Bool) (a12 : Int) (a13 : Int) (a14 : Int) (a15 : Int) (a16 : List Int) (a17 : Int) (a18 : Bool) (a19 : Int) (y : (Int × Bool × Int × Int × Int × Int × Int × Int × Int × Int × Int × Bool × Int × Int × Int × Int × List Int) × (List (Int × Int × Int × Int)) × Bool × Int) (h : due_End_R a0 a1 a2 a3 a4 a5 a6 a7 a8 a9 a10 a11 a12 a13 a14 a15 a16 a17 a18 a19 y) : acall q29_cx okT lpT 60 (.fn 29 [] []) [(V.agg [(V.int .u32 a0), (V.bool a1), (V.int .u64 a2), (V.int .u64 a3), (V.int .u64 a4), (V.int .u64 a5), (V.int .u64 a6), (V.int .i64 a7), (V.int .i64 a8), (V.int .i64 a9), (V.int .i64 a10), (V.bool a11), (V.int .i64 a12), (V.int .u64 a13), (V.int .i64 a14), (V.int .i64 a15), (V.sl (.int .i64) a16 none)]), (V.int .u64 a17), (V.bool a18), (V.int .u64 a19)] [] (leafK (.tup (.cons (.agg (.cons (.int .u32) (.cons .bool (.cons (.int .u64) (.cons (.int .u64) (.cons (.int .u64) (.cons (.int .u64) (.cons (.int .u64) (.cons (.int .i64) (.cons (.int .i64) (.cons (.int .i64) (.cons (.int .i64) (.cons .bool (.cons (.int .i64) (.cons (.int .u64) (.cons (.int .i64) (.cons (.int .i64) (.one (.sl (.int .i64)))))))))))))))))))) (.cons (.sl (.pr (.int .u64) (.pr (.int .u32) (.pr (.int .i64) (.int .i64))))) (.cons .bool (.one (.int .i64)))))) y) := by
  refine cast (q29_tree a0 a1 a2 a3 a4 a5 a6 a7 a8 a9 a10 a11 a12 a13 a14 a15 a16 a17 a18 a19 y).symm ?_
  unfold due_End_R at h
  refine rqn_intro 5 ?_
  refine ex_both h fun y1 h => ?_
  refine rqn_intro 2 ?_
  refine br_both h (fun hb h => ?_) (fun hb h => ?_)
  ·refine rqn_intro 8 ?_
   exact req_intro rfl h
  ·refine rqn_intro 4 ?_
   refine br_both h (fun hb h => ?_) (fun hb h => ?_)
   ·refine rqn_intro 6 ?_
    exact req_intro rfl h
   ·refine rqn_intro 5 ?_
    refine br_both h (fun hb h => ?_) (fun hb h => ?_)
    ·refine rqn_intro 4 ?_
     exact req_intro rfl h
    ·refine rqn_intro 3 ?_
     refine br_both h (fun hb h => ?_) (fun hb h => ?_)
     ·refine rqn_intro 6 ?_
      exact req_intro rfl h
     ·refine rqn_intro 7 ?_
      refine br_both h (fun hb h => ?_) (fun hb h => ?_)
      ·refine rqn_intro 4 ?_
       exact req_intro rfl h
      ·refine rqn_intro 5 ?_
       refine ex_both h fun y2 h => ?_
       intro c3 hc3
       refine rqn_intro 10 ?_
       refine br_both h (fun hb h => ?_) (fun hb h => ?_)
       ·refine rqn_intro 15 ?_
        refine br_both h (fun hb h => ?_) (fun hb h => ?_)
        ·refine rqn_intro 34 ?_
         refine an_intro 3 ?_
         refine req_intro rfl ?_
         refine an_intro 2 ?_
         refine req_intro rfl ?_
         refine an_intro 1 ?_
         refine rqn_intro 11 ?_
         refine an_intro 1 ?_
         refine rqn_intro 19 ?_
         exact req_intro (band (band (band rfl (band rfl (band rfl (band rfl (band rfl (band rfl (band rfl (band rfl (band rfl (band rfl (band rfl (band rfl (band rfl (band rfl (band rfl (band rfl (Nat.beq_refl _))))))))))))))))) (band rfl (band rfl rfl))) (band (band rfl (band rfl (band rfl (band rfl (band rfl (band rfl (band rfl (band rfl (band rfl (band rfl (band rfl (band rfl (band rfl (band rfl (band rfl (band rfl rfl)))))))))))))))) (band rfl (band rfl rfl)))) h
        ·refine rqn_intro 8 ?_
         refine br_both h (fun hb h => ?_) (fun hb h => ?_)
         ·refine rqn_intro 5 ?_
          obtain ⟨q, h⟩ := req_of h
          refine req_intro (band rfl q) ?_
          obtain ⟨q, h⟩ := req_of h
          refine req_intro q ?_
          refine rqn_intro 7 ?_
          obtain ⟨q, h⟩ := req_of h
          refine req_intro (band (band (band (band rfl rfl) (ble_same _)) (band rfl hc3)) (band rfl q)) ?_
          refine rqn_intro 24 ?_
          refine an_intro 3 ?_
          refine req_intro rfl ?_
          refine an_intro 2 ?_
          refine req_intro rfl ?_
          refine an_intro 1 ?_
          refine rqn_intro 11 ?_
          refine an_intro 1 ?_
          refine rqn_intro 19 ?_
          obtain ⟨q, h⟩ := req_of h
          exact req_intro (band (band (band rfl (band rfl (band rfl (band rfl (band rfl (band rfl (band rfl (band rfl (band rfl (band rfl (band rfl (band rfl (band rfl (band rfl (band rfl (band rfl q)))))))))))))))) (band rfl (band rfl rfl))) (band (band rfl (band rfl (band rfl (band rfl (band rfl (band rfl (band rfl (band rfl (band rfl (band rfl (band rfl (band rfl (band rfl (band rfl (band rfl (band rfl rfl)))))))))))))))) (band rfl (band rfl rfl)))) h
         ·refine rqn_intro 12 ?_
          refine br_both h (fun hb h => ?_) (fun hb h => ?_)
          ·refine rqn_intro 13 ?_
           refine an_intro 1 ?_
           refine rqn_intro 19 ?_
           exact req_intro (band (band (band rfl (band rfl (band rfl (band rfl (band rfl (band rfl (band rfl (band rfl (band rfl (band rfl (band rfl (band rfl (band rfl (band rfl (band rfl (band rfl (Nat.beq_refl _))))))))))))))))) (band rfl (band rfl rfl))) (band (band rfl (band rfl (band rfl (band rfl (band rfl (band rfl (band rfl (band rfl (band rfl (band rfl (band rfl (band rfl (band rfl (band rfl (band rfl (band rfl rfl)))))))))))))))) (band rfl (band rfl rfl)))) h
          ·refine rqn_intro 7 ?_
           refine an_intro 1 ?_
           refine rqn_intro 19 ?_
           exact req_intro (band (band (band rfl (band rfl (band rfl (band rfl (band rfl (band rfl (band rfl (band rfl (band rfl (band rfl (band rfl (band rfl (band rfl (band rfl (band rfl (band rfl (Nat.beq_refl _))))))))))))))))) (band rfl (band rfl rfl))) (band (band rfl (band rfl (band rfl (band rfl (band rfl (band rfl (band rfl (band rfl (band rfl (band rfl (band rfl (band rfl (band rfl (band rfl (band rfl (band rfl rfl)))))))))))))))) (band rfl (band rfl rfl)))) h
       ·refine rqn_intro 10 ?_
        refine br_both h (fun hb h => ?_) (fun hb h => ?_)
        ·refine rqn_intro 5 ?_
         obtain ⟨q, h⟩ := req_of h
         refine req_intro (band rfl q) ?_
         obtain ⟨q, h⟩ := req_of h
         refine req_intro q ?_
         refine rqn_intro 7 ?_
         obtain ⟨q, h⟩ := req_of h
         refine req_intro (band (band (band (band rfl rfl) (ble_same _)) (band rfl hc3)) (band rfl q)) ?_
         refine rqn_intro 24 ?_
         refine an_intro 3 ?_
         refine req_intro rfl ?_
         refine an_intro 2 ?_
         refine req_intro rfl ?_
         refine an_intro 1 ?_
         refine rqn_intro 11 ?_
         refine an_intro 1 ?_
         refine rqn_intro 19 ?_
         obtain ⟨q, h⟩ := req_of h
         exact req_intro (band (band (band rfl (band rfl (band rfl (band rfl (band rfl (band rfl (band rfl (band rfl (band rfl (band rfl (band rfl (band rfl (band rfl (band rfl (band rfl (band rfl q)))))))))))))))) (band rfl (band rfl rfl))) (band (band rfl (band rfl (band rfl (band rfl (band rfl (band rfl (band rfl (band rfl (band rfl (band rfl (band rfl (band rfl (band rfl (band rfl (band rfl (band rfl rfl)))))))))))))))) (band rfl (band rfl rfl)))) h
        ·refine rqn_intro 12 ?_
         refine br_both h (fun hb h => ?_) (fun hb h => ?_)
         ·refine rqn_intro 13 ?_
          refine an_intro 1 ?_
          refine rqn_intro 19 ?_
          exact req_intro (band (band (band rfl (band rfl (band rfl (band rfl (band rfl (band rfl (band rfl (band rfl (band rfl (band rfl (band rfl (band rfl (band rfl (band rfl (band rfl (band rfl (Nat.beq_refl _))))))))))))))))) (band rfl (band rfl rfl))) (band (band rfl (band rfl (band rfl (band rfl (band rfl (band rfl (band rfl (band rfl (band rfl (band rfl (band rfl (band rfl (band rfl (band rfl (band rfl (band rfl rfl)))))))))))))))) (band rfl (band rfl rfl)))) h
         ·refine rqn_intro 7 ?_
          refine an_intro 1 ?_
          refine rqn_intro 19 ?_
          exact req_intro (band (band (band rfl (band rfl (band rfl (band rfl (band rfl (band rfl (band rfl (band rfl (band rfl (band rfl (band rfl (band rfl (band rfl (band rfl (band rfl (band rfl (Nat.beq_refl _))))))))))))))))) (band rfl (band rfl rfl))) (band (band rfl (band rfl (band rfl (band rfl (band rfl (band rfl (band rfl (band rfl (band rfl (band rfl (band rfl (band rfl (band rfl (band rfl (band rfl (band rfl rfl)))))))))))))))) (band rfl (band rfl rfl)))) h
theorem due_End_ok : FxOk Tryd.prog gsT 29 (.cons (.agg (.cons (.int .u32) (.cons .bool (.cons (.int .u64) (.cons (.int .u64) (.cons (.int .u64) (.cons (.int .u64) (.cons (.int .u64) (.cons (.int .i64) (.cons (.int .i64) (.cons (.int .i64) (.cons (.int .i64) (.cons .bool (.cons (.int .i64) (.cons (.int .u64) (.cons (.int .i64) (.cons (.int .i64) (.one (.sl (.int .i64)))))))))))))))))))) (.cons (.int .u64) (.cons .bool (.one (.int .u64))))) (.tup (.cons (.agg (.cons (.int .u32) (.cons .bool (.cons (.int .u64) (.cons (.int .u64) (.cons (.int .u64) (.cons (.int .u64) (.cons (.int .u64) (.cons (.int .i64) (.cons (.int .i64) (.cons (.int .i64) (.cons (.int .i64) (.cons .bool (.cons (.int .i64) (.cons (.int .u64) (.cons (.int .i64) (.cons (.int .i64) (.one (.sl (.int .i64)))))))))))))))))))) (.cons (.sl (.pr (.int .u64) (.pr (.int .u32) (.pr (.int .i64) (.int .i64))))) (.cons .bool (.one (.int .i64)))))) fun x y => due_End_R (x.1.1) (x.1.2.1) (x.1.2.2.1) (x.1.2.2.2.1) (x.1.2.2.2.2.1) (x.1.2.2.2.2.2.1) (x.1.2.2.2.2.2.2.1) (x.1.2.2.2.2.2.2.2.1) (x.1.2.2.2.2.2.2.2.2.1) (x.1.2.2.2.2.2.2.2.2.2.1) (x.1.2.2.2.2.2.2.2.2.2.2.1) (x.1.2.2.2.2.2.2.2.2.2.2.2.1) (x.1.2.2.2.2.2.2.2.2.2.2.2.2.1) (x.1.2.2.2.2.2.2.2.2.2.2.2.2.2.1) (x.1.2.2.2.2.2.2.2.2.2.2.2.2.2.2.1) (x.1.2.2.2.2.2.2.2.2.2.2.2.2.2.2.2.1) (x.1.2.2.2.2.2.2.2.2.2.2.2.2.2.2.2.2) (x.2.1) (x.2.2.1) (x.2.2.2) y := fx_of (c := q29_cx) (ty_ok rfl) (eq_ok rfl) q29_fns follows_ok (ok := okT) (lp := lpT) (n := 60) lp_ok (enters Tryd.func29 (by kernel_rfl) rfl) (fun y => ⟨_, rfl⟩) fun x y h => q29_run _ _ _ _ _ _ _ _ _ _ _ _ _ _ _ _ _ _ _ _ y h
noncomputable def q54_cx : Cx := ⟨tyT, [(54, .body Tryd.f54),
  (88, .body Tryd.f88)], gsT, eqT⟩
theorem q54_fns : FnsOk Tryd.prog q54_cx := Fns_assoc ⟨body_ent Tryd.func54 (by kernel_rfl) (by kernel_rfl), body_ent Tryd.func88 (by kernel_rfl) (by kernel_rfl), trivial⟩
def curfewlaw13_hourly_R (y : Int × Bool × Int × Int × Int × Int × Int × Int × Int × Int × Int × Bool × Int × Int × Int × Int × List Int) : Prop :=
  ((7, (false, (1, (16777215, (4294967294, (8190, (127, (0, (1, (2, (0, (false, (3600, (0, (0, (0, [])))))))))))))))) = y)
theorem q54_tree (y : Int × Bool × Int × Int × Int × Int × Int × Int × Int × Int × Int × Bool × Int × Int × Int × Int × List Int) : acall q54_cx okT lpT 60 (.fn 54 [] []) [] [] (leafK (.agg (.cons (.int .u32) (.cons .bool (.cons (.int .u64) (.cons (.int .u64) (.cons (.int .u64) (.cons (.int .u64) (.cons (.int .u64) (.cons (.int .i64) (.cons (.int .i64) (.cons (.int .i64) (.cons (.int .i64) (.cons .bool (.cons (.int .i64) (.cons (.int .u64) (.cons (.int .i64) (.cons (.int .i64) (.one (.nw (.int .i64) 2))))))))))))))))))) y) =
    (rqn 45 (req true ((7, (false, (1, (16777215, (4294967294, (8190, (127, (0, (1, (2, (0, (false, (3600, (0, (0, (0, [])))))))))))))))) = y))) := by kernel_rfl
theorem q54_run (y : Int × Bool × Int × Int × Int × Int × Int × Int × Int × Int × Int × Bool × Int × Int × Int × Int × List Int) (h : curfewlaw13_hourly_R y) : acall q54_cx okT lpT 60 (.fn 54 [] []) [] [] (leafK (.agg (.cons (.int .u32) (.cons .bool (.cons (.int .u64) (.cons (.int .u64) (.cons (.int .u64) (.cons (.int .u64) (.cons (.int .u64) (.cons (.int .i64) (.cons (.int .i64) (.cons (.int .i64) (.cons (.int .i64) (.cons .bool (.cons (.int .i64) (.cons (.int .u64) (.cons (.int .i64) (.cons (.int .i64) (.one (.nw (.int .i64) 2))))))))))))))))))) y) := by
  refine cast (q54_tree y).symm ?_
  unfold curfewlaw13_hourly_R at h
  refine rqn_intro 45 ?_
  exact req_intro rfl h
theorem curfewlaw13_hourly_ok : FxOk Tryd.prog gsT 54 (.one .none) (.agg (.cons (.int .u32) (.cons .bool (.cons (.int .u64) (.cons (.int .u64) (.cons (.int .u64) (.cons (.int .u64) (.cons (.int .u64) (.cons (.int .i64) (.cons (.int .i64) (.cons (.int .i64) (.cons (.int .i64) (.cons .bool (.cons (.int .i64) (.cons (.int .u64) (.cons (.int .i64) (.cons (.int .i64) (.one (.nw (.int .i64) 2))))))))))))))))))) fun x y => curfewlaw13_hourly_R y := fx_of (c := q54_cx) (ty_ok rfl) (eq_ok rfl) q54_fns follows_ok (ok := okT) (lp := lpT) (n := 60) lp_ok (enters Tryd.func54 (by kernel_rfl) rfl) (fun y => ⟨_, rfl⟩) fun x y h => q54_run y h
noncomputable def q25_cx : Cx := ⟨tyT, [(25, .body Tryd.f25),
  (28, .fx (.cons (.agg (.cons (.int .u32) (.cons .bool (.cons (.int .u64) (.cons (.int .u64) (.cons (.int .u64) (.cons (.int .u64) (.cons (.int .u64) (.cons (.int .i64) (.cons (.int .i64) (.cons (.int .i64) (.cons (.int .i64) (.cons .bool (.cons (.int .i64) (.cons (.int .u64) (.cons (.int .i64) (.cons (.int .i64) (.one (.sl (.int .i64)))))))))))))))))))) (.cons (.int .i64) (.one (.int .u64)))) (.tup (.cons (.agg (.cons (.int .u32) (.cons .bool (.cons (.int .u64) (.cons (.int .u64) (.cons (.int .u64) (.cons (.int .u64) (.cons (.int .u64) (.cons (.int .i64) (.cons (.int .i64) (.cons (.int .i64) (.cons (.int .i64) (.cons .bool (.cons (.int .i64) (.cons (.int .u64) (.cons (.int .i64) (.cons (.int .i64) (.one (.nw (.int .i64) 2))))))))))))))))))) (.cons (.sl (.pr (.int .u64) (.pr (.int .u32) (.pr (.int .i64) (.int .i64))))) (.one (.int .i64))))) fun x y => due_Step_R (x.1.1) (x.1.2.1) (x.1.2.2.1) (x.1.2.2.2.1) (x.1.2.2.2.2.1) (x.1.2.2.2.2.2.1) (x.1.2.2.2.2.2.2.1) (x.1.2.2.2.2.2.2.2.1) (x.1.2.2.2.2.2.2.2.2.1) (x.1.2.2.2.2.2.2.2.2.2.1) (x.1.2.2.2.2.2.2.2.2.2.2.1) (x.1.2.2.2.2.2.2.2.2.2.2.2.1) (x.1.2.2.2.2.2.2.2.2.2.2.2.2.1) (x.1.2.2.2.2.2.2.2.2.2.2.2.2.2.1) (x.1.2.2.2.2.2.2.2.2.2.2.2.2.2.2.1) (x.1.2.2.2.2.2.2.2.2.2.2.2.2.2.2.2.1) (x.1.2.2.2.2.2.2.2.2.2.2.2.2.2.2.2.2) (x.2.1) (x.2.2) y),
  (29, .fx (.cons (.agg (.cons (.int .u32) (.cons .bool (.cons (.int .u64) (.cons (.int .u64) (.cons (.int .u64) (.cons (.int .u64) (.cons (.int .u64) (.cons (.int .i64) (.cons (.int .i64) (.cons (.int .i64) (.cons (.int .i64) (.cons .bool (.cons (.int .i64) (.cons (.int .u64) (.cons (.int .i64) (.cons (.int .i64) (.one (.sl (.int .i64)))))))))))))))))))) (.cons (.int .u64) (.cons .bool (.one (.int .u64))))) (.tup (.cons (.agg (.cons (.int .u32) (.cons .bool (.cons (.int .u64) (.cons (.int .u64) (.cons (.int .u64) (.cons (.int .u64) (.cons (.int .u64) (.cons (.int .i64) (.cons (.int .i64) (.cons (.int .i64) (.cons (.int .i64) (.cons .bool (.cons (.int .i64) (.cons (.int .u64) (.cons (.int .i64) (.cons (.int .i64) (.one (.sl (.int .i64)))))))))))))))))))) (.cons (.sl (.pr (.int .u64) (.pr (.int .u32) (.pr (.int .i64) (.int .i64))))) (.cons .bool (.one (.int .i64)))))) fun x y => due_End_R (x.1.1) (x.1.2.1) (x.1.2.2.1) (x.1.2.2.2.1) (x.1.2.2.2.2.1) (x.1.2.2.2.2.2.1) (x.1.2.2.2.2.2.2.1) (x.1.2.2.2.2.2.2.2.1) (x.1.2.2.2.2.2.2.2.2.1) (x.1.2.2.2.2.2.2.2.2.2.1) (x.1.2.2.2.2.2.2.2.2.2.2.1) (x.1.2.2.2.2.2.2.2.2.2.2.2.1) (x.1.2.2.2.2.2.2.2.2.2.2.2.2.1) (x.1.2.2.2.2.2.2.2.2.2.2.2.2.2.1) (x.1.2.2.2.2.2.2.2.2.2.2.2.2.2.2.1) (x.1.2.2.2.2.2.2.2.2.2.2.2.2.2.2.2.1) (x.1.2.2.2.2.2.2.2.2.2.2.2.2.2.2.2.2) (x.2.1) (x.2.2.1) (x.2.2.2) y),
  (54, .fx (.one .none) (.agg (.cons (.int .u32) (.cons .bool (.cons (.int .u64) (.cons (.int .u64) (.cons (.int .u64) (.cons (.int .u64) (.cons (.int .u64) (.cons (.int .i64) (.cons (.int .i64) (.cons (.int .i64) (.cons (.int .i64) (.cons .bool (.cons (.int .i64) (.cons (.int .u64) (.cons (.int .i64) (.cons (.int .i64) (.one (.nw (.int .i64) 2))))))))))))))))))) fun x y => curfewlaw13_hourly_R y)], gsT, eqT⟩
theorem q25_fns : FnsOk Tryd.prog q25_cx := Fns_assoc ⟨body_ent Tryd.func25 (by kernel_rfl) (by kernel_rfl), due_Step_ok, due_End_ok, curfewlaw13_hourly_ok, trivial⟩
def curfewlaw13_wakes_R (y : Bool) : Prop :=
  (∃ y1 : Int × Bool × Int × Int × Int × Int × Int × Int × Int × Int × Int × Bool × Int × Int × Int × Int × List Int, (curfewlaw13_hourly_R y1) ∧ (∃ y3 : (Int × Bool × Int × Int × Int × Int × Int × Int × Int × Int × Int × Bool × Int × Int × Int × Int × List Int) × (List (Int × Int × Int × Int)) × Int, (due_Step_R (y1.1) (y1.2.1) (y1.2.2.1) (y1.2.2.2.1) (y1.2.2.2.2.1) (y1.2.2.2.2.2.1) (y1.2.2.2.2.2.2.1) (y1.2.2.2.2.2.2.2.1) (y1.2.2.2.2.2.2.2.2.1) (y1.2.2.2.2.2.2.2.2.2.1) (y1.2.2.2.2.2.2.2.2.2.2.1) (y1.2.2.2.2.2.2.2.2.2.2.2.1) (y1.2.2.2.2.2.2.2.2.2.2.2.2.1) (y1.2.2.2.2.2.2.2.2.2.2.2.2.2.1) (y1.2.2.2.2.2.2.2.2.2.2.2.2.2.2.1) (y1.2.2.2.2.2.2.2.2.2.2.2.2.2.2.2.1) (y1.2.2.2.2.2.2.2.2.2.2.2.2.2.2.2.2) 18000 1 y3) ∧ (br ((y3.2.2) != 0) (false = y) (br ((((List.length (y3.2.1)) : Nat) : Int) != 1) (false = y) (req (decide (0 < (((List.length (y3.2.1)) : Nat) : Int))) (br (!((((List.getD (y3.2.1) 0 (0, (0, (0, 0)))).1) == 1) && (((((List.getD (y3.2.1) 0 (0, (0, (0, 0)))).2).1) == 7) && ((((((List.getD (y3.2.1) 0 (0, (0, (0, 0)))).2).2).1) == 3600) && ((((((List.getD (y3.2.1) 0 (0, (0, (0, 0)))).2).2).2) == 0) && true))))) (false = y) (br ((((List.length (y3.1.2.2.2.2.2.2.2.2.2.2.2.2.2.2.2.2)) : Nat) : Int) != 3) (false = y) (br ((y3.1.2.2.2.2.2.2.2.2.2.2.2.2.1) != 21600) (false = y) (∃ y5 : (Int × Bool × Int × Int × Int × Int × Int × Int × Int × Int × Int × Bool × Int × Int × Int × Int × List Int) × (List (Int × Int × Int × Int)) × Bool × Int, (due_End_R (y3.1.1) (y3.1.2.1) (y3.1.2.2.1) (y3.1.2.2.2.1) (y3.1.2.2.2.2.1) (y3.1.2.2.2.2.2.1) (y3.1.2.2.2.2.2.2.1) (y3.1.2.2.2.2.2.2.2.1) (y3.1.2.2.2.2.2.2.2.2.1) (y3.1.2.2.2.2.2.2.2.2.2.1) (y3.1.2.2.2.2.2.2.2.2.2.2.1) (y3.1.2.2.2.2.2.2.2.2.2.2.2.1) (y3.1.2.2.2.2.2.2.2.2.2.2.2.2.1) (y3.1.2.2.2.2.2.2.2.2.2.2.2.2.2.1) (y3.1.2.2.2.2.2.2.2.2.2.2.2.2.2.2.1) (y3.1.2.2.2.2.2.2.2.2.2.2.2.2.2.2.2.1) (y3.1.2.2.2.2.2.2.2.2.2.2.2.2.2.2.2.2) 1 true 2 y5) ∧ (br ((y5.2.2.2) == 0) (br (!(y5.2.2.1)) (br ((((List.length (y5.2.1)) : Nat) : Int) == 1) (req (decide (0 < (((List.length (y5.2.1)) : Nat) : Int))) (br (((((List.getD (y5.2.1) 0 (0, (0, (0, 0)))).2).2).1) == 7200) (br ((y5.1.2.2.2.2.2.2.2.2.2.2.2.2.2.1) == 2) (((((List.length (y5.1.2.2.2.2.2.2.2.2.2.2.2.2.2.2.2.2)) : Nat) : Int) == 2) = y) (false = y)) (false = y))) (false = y)) (false = y)) (false = y)))))))))))
theorem q25_tree (y : Bool) : acall q25_cx okT lpT 60 (.fn 25 [] []) [] [] (leafK .bool y) =
    (rqn 2 (∃ y1 : Int × Bool × Int × Int × Int × Int × Int × Int × Int × Int × Int × Bool × Int × Int × Int × Int × List Int, (curfewlaw13_hourly_R y1) ∧ (∀ c2 : Nat, Nat.ble (List.length (y1.2.2.2.2.2.2.2.2.2.2.2.2.2.2.2.2)) c2 = true → (req (((true && (true && (true && (true && (true && (true && (true && (true && (true && (true && (true && (true && (true && (true && (true && (true && ((Nat.beq (List.length (y1.2.2.2.2.2.2.2.2.2.2.2.2.2.2.2.2)) (List.length (y1.2.2.2.2.2.2.2.2.2.2.2.2.2.2.2.2))) && true))))))))))))))))) && (true && (true && true))) && ((true && (true && (true && (true && (true && (true && (true && (true && (true && (true && (true && (true && (true && (true && (true && (true && true)))))))))))))))) && (true && true))) (∃ y3 : (Int × Bool × Int × Int × Int × Int × Int × Int × Int × Int × Int × Bool × Int × Int × Int × Int × List Int) × (List (Int × Int × Int × Int)) × Int, (due_Step_R (y1.1) (y1.2.1) (y1.2.2.1) (y1.2.2.2.1) (y1.2.2.2.2.1) (y1.2.2.2.2.2.1) (y1.2.2.2.2.2.2.1) (y1.2.2.2.2.2.2.2.1) (y1.2.2.2.2.2.2.2.2.1) (y1.2.2.2.2.2.2.2.2.2.1) (y1.2.2.2.2.2.2.2.2.2.2.1) (y1.2.2.2.2.2.2.2.2.2.2.2.1) (y1.2.2.2.2.2.2.2.2.2.2.2.2.1) (y1.2.2.2.2.2.2.2.2.2.2.2.2.2.1) (y1.2.2.2.2.2.2.2.2.2.2.2.2.2.2.1) (y1.2.2.2.2.2.2.2.2.2.2.2.2.2.2.2.1) (y1.2.2.2.2.2.2.2.2.2.2.2.2.2.2.2.2) 18000 1 y3) ∧ (∀ c4 : Nat, Nat.ble (List.length (y3.1.2.2.2.2.2.2.2.2.2.2.2.2.2.2.2.2)) c4 = true → (rqn 9 (br ((y3.2.2) != 0) (rqn 8 (req true (false = y))) (rqn 5 (br ((((List.length (y3.2.1)) : Nat) : Int) != 1) (rqn 6 (req true (false = y))) (req true (req (true && (decide (0 < (((List.length (y3.2.1)) : Nat) : Int)))) (rqn 5 (br (!((((List.getD (y3.2.1) 0 (0, (0, (0, 0)))).1) == 1) && (((((List.getD (y3.2.1) 0 (0, (0, (0, 0)))).2).1) == 7) && ((((((List.getD (y3.2.1) 0 (0, (0, (0, 0)))).2).2).1) == 3600) && ((((((List.getD (y3.2.1) 0 (0, (0, (0, 0)))).2).2).2) == 0) && true))))) (rqn 4 (req true (false = y))) (rqn 6 (br ((((List.length (y3.1.2.2.2.2.2.2.2.2.2.2.2.2.2.2.2.2)) : Nat) : Int) != 3) (rqn 2 (req true (false = y))) (rqn 4 (br ((y3.1.2.2.2.2.2.2.2.2.2.2.2.2.1) != 21600) (req true (req true (false = y))) (req true (req (((true && (true && (true && (true && (true && (true && (true && (true && (true && (true && (true && (true && (true && (true && (true && (true && ((Nat.beq (List.length (y3.1.2.2.2.2.2.2.2.2.2.2.2.2.2.2.2.2)) (List.length (y3.1.2.2.2.2.2.2.2.2.2.2.2.2.2.2.2.2))) && true))))))))))))))))) && (true && (true && (true && true)))) && ((true && (true && (true && (true && (true && (true && (true && (true && (true && (true && (true && (true && (true && (true && (true && (true && true)))))))))))))))) && (true && (true && true)))) (∃ y5 : (Int × Bool × Int × Int × Int × Int × Int × Int × Int × Int × Int × Bool × Int × Int × Int × Int × List Int) × (List (Int × Int × Int × Int)) × Bool × Int, (due_End_R (y3.1.1) (y3.1.2.1) (y3.1.2.2.1) (y3.1.2.2.2.1) (y3.1.2.2.2.2.1) (y3.1.2.2.2.2.2.1) (y3.1.2.2.2.2.2.2.1) (y3.1.2.2.2.2.2.2.2.1) (y3.1.2.2.2.2.2.2.2.2.1) (y3.1.2.2.2.2.2.2.2.2.2.1) (y3.1.2.2.2.2.2.2.2.2.2.2.1) (y3.1.2.2.2.2.2.2.2.2.2.2.2.1) (y3.1.2.2.2.2.2.2.2.2.2.2.2.2.1) (y3.1.2.2.2.2.2.2.2.2.2.2.2.2.2.1) (y3.1.2.2.2.2.2.2.2.2.2.2.2.2.2.2.1) (y3.1.2.2.2.2.2.2.2.2.2.2.2.2.2.2.2.1) (y3.1.2.2.2.2.2.2.2.2.2.2.2.2.2.2.2.2) 1 true 2 y5) ∧ (rqn 11 (br ((y5.2.2.2) == 0) (rqn 4 (br (!(y5.2.2.1)) (rqn 5 (br ((((List.length (y5.2.1)) : Nat) : Int) == 1) (req true (req (true && (decide (0 < (((List.length (y5.2.1)) : Nat) : Int)))) (rqn 5 (br (((((List.getD (y5.2.1) 0 (0, (0, (0, 0)))).2).2).1) == 7200) (rqn 6 (br ((y5.1.2.2.2.2.2.2.2.2.2.2.2.2.2.1) == 2) (rqn 6 (req true (((((List.length (y5.1.2.2.2.2.2.2.2.2.2.2.2.2.2.2.2.2)) : Nat) : Int) == 2) = y))) (rqn 2 (req true (false = y))))) (rqn 4 (req true (false = y))))))) (rqn 6 (req true (false = y))))) (rqn 8 (req true (false = y))))) (rqn 10 (req true (false = y)))))))))))))))))))))))))) := by kernel_rfl
theorem q25_run (y : Bool) (h : curfewlaw13_wakes_R y) : acall q25_cx okT lpT 60 (.fn 25 [] []) [] [] (leafK .bool y) := by
  refine cast (q25_tree y).symm ?_
  unfold curfewlaw13_wakes_R at h
  refine rqn_intro 2 ?_
  refine ex_both h fun y1 h => ?_
  intro c2 hc2
  refine req_intro (band (band (band rfl (band rfl (band rfl (band rfl (band rfl (band rfl (band rfl (band rfl (band rfl (band rfl (band rfl (band rfl (band rfl (band rfl (band rfl (band rfl (band (Nat.beq_refl _) rfl))))))))))))))))) (band rfl (band rfl rfl))) (band (band rfl (band rfl (band rfl (band rfl (band rfl (band rfl (band rfl (band rfl (band rfl (band rfl (band rfl (band rfl (band rfl (band rfl (band rfl (band rfl rfl)))))))))))))))) (band rfl rfl))) ?_
  refine ex_both h fun y3 h => ?_
  intro c4 hc4
  refine rqn_intro 9 ?_
  refine br_both h (fun hb h => ?_) (fun hb h => ?_)
  ·refine rqn_intro 8 ?_
   exact req_intro rfl h
  ·refine rqn_intro 5 ?_
   refine br_both h (fun hb h => ?_) (fun hb h => ?_)
   ·refine rqn_intro 6 ?_
    exact req_intro rfl h
   ·refine req_intro rfl ?_
    obtain ⟨q, h⟩ := req_of h
    refine req_intro (band rfl q) ?_
    refine rqn_intro 5 ?_
    refine br_both h (fun hb h => ?_) (fun hb h => ?_)
    ·refine rqn_intro 4 ?_
     exact req_intro rfl h
    ·refine rqn_intro 6 ?_
     refine br_both h (fun hb h => ?_) (fun hb h => ?_)
     ·refine rqn_intro 2 ?_
      exact req_intro rfl h
     ·refine rqn_intro 4 ?_
      refine br_both h (fun hb h => ?_) (fun hb h => ?_)
      ·refine req_intro rfl ?_
       exact req_intro rfl h
      ·refine req_intro rfl ?_
       refine req_intro (band (band (band rfl (band rfl (band rfl (band rfl (band rfl (band rfl (band rfl (band rfl (band rfl (band rfl (band rfl (band rfl (band rfl (band rfl (band rfl (band rfl (band (Nat.beq_refl _) rfl))))))))))))))))) (band rfl (band rfl (band rfl rfl)))) (band (band rfl (band rfl (band rfl (band rfl (band rfl (band rfl (band rfl (band rfl (band rfl (band rfl (band rfl (band rfl (band rfl (band rfl (band rfl (band rfl rfl)))))))))))))))) (band rfl (band rfl rfl)))) ?_
       refine ex_both h fun y5 h => ?_
       refine rqn_intro 11 ?_
       refine br_both h (fun hb h => ?_) (fun hb h => ?_)
       ·refine rqn_intro 4 ?_
        refine br_both h (fun hb h => ?_) (fun hb h => ?_)
        ·refine rqn_intro 5 ?_
         refine br_both h (fun hb h => ?_) (fun hb h => ?_)
         ·refine req_intro rfl ?_
          obtain ⟨q, h⟩ := req_of h
          refine req_intro (band rfl q) ?_
          refine rqn_intro 5 ?_
          refine br_both h (fun hb h => ?_) (fun hb h => ?_)
          ·refine rqn_intro 6 ?_
           refine br_both h (fun hb h => ?_) (fun hb h => ?_)
           ·refine rqn_intro 6 ?_
            exact req_intro rfl h
           ·refine rqn_intro 2 ?_
            exact req_intro rfl h
          ·refine rqn_intro 4 ?_
           exact req_intro rfl h
         ·refine rqn_intro 6 ?_
          exact req_intro rfl h
        ·refine rqn_intro 8 ?_
         exact req_intro rfl h
       ·refine rqn_intro 10 ?_
        exact req_intro rfl h
theorem curfewlaw13_wakes_ok : FxOk Tryd.prog gsT 25 (.one .none) .bool fun x y => curfewlaw13_wakes_R y := fx_of (c := q25_cx) (ty_ok rfl) (eq_ok rfl) q25_fns follows_ok (ok := okT) (lp := lpT) (n := 60) lp_ok (enters Tryd.func25 (by kernel_rfl) rfl) (fun y => ⟨_, rfl⟩) fun x y h => q25_run y h
end Go.Proofs.YtiffoefhadgdnaaDoor
