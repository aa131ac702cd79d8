/- What Go functions come to (printed by gb.py). -/
import Derived.Test.YtiffoefhadgdnaaDoorGxb
namespace Go.Proofs.YtiffoefhadgdnaaDoor
open Go Go.B Go.RowKit
set_option linter.unusedVariables false
set_option linter.unusedSimpArgs false
set_option maxRecDepth 100000
attribute [local irreducible] Go.B.acall Go.B.acode
theorem q30_tree (a0 : Int) (a1 : Bool) (a2 : Int) (a3 : Int) (a4 : Int) (a5 : Int) (a6 : Int) (a7 : Int) (a8 : Int) (a9 : Int) (a10 : Int) (a11 : Bool) (a12 : Int) (a13 : Int) (a14 : Int) (a15 : Int) (a16 : List Int) (a17 : Int) (y : List Int × Int) : acall q30_cx okT lpT 60 (.fn 30 [] []) [(V.agg [(V.int .u32 a0), (V.bool a1), (V.int .u64 a2), (V.int .u64 a3), (V.int .u64 a4), (V.int .u64 a5), (V.int .u64 a6), (V.int .i64 a7), (V.int .i64 a8), (V.int .i64 a9), (V.int .i64 a10), (V.bool a11), (V.int .i64 a12), (V.int .u64 a13), (V.int .i64 a14), (V.int .i64 a15), (V.sl (.int .i64) a16 none)]), (V.int .i64 a17)] [] (leafK (.tup (.cons (.sl (.int .i64)) (.one (.int .i64)))) y) =
    (rqn 4 (∃ y1 : Int, (table_CheckRow_R a0 a1 a2 a3 a4 a5 a6 a7 a8 a9 a10 a11 a12 a13 a14 a15 a16 y1) ∧ (rqn 2 (br (y1 != 0) (rqn 3 (req true (([], (-1)) = y))) (rqn 2 (∃ y2 : Bool, (times_May_R a17 y2) ∧ (rqn 2 (br (!y2) (rqn 2 (req true (([], (-1)) = y))) (rqn 4 (br (a12 == (-1)) (rqn 6 (req true (([], a12) = y))) (rqn 5 (br (decide (a12 > a17)) (rqn 5 (req true (([], a12) = y))) (rqn 5 ((req true ((req ((decide (0 ≤ a9)) && (decide (a9 < 3))) ((br ((((offN 0 a9 1) : Nat) : Int) == 0) ((rqn 7 (∃ y3 : Int × Bool, (job_Latest_R a0 a1 a2 a3 a4 a5 a6 a7 a8 a9 a10 a17 y3) ∧ (rqn 8 (br (!(y3.2)) (rqn 3 (an 1 (rqn 3 (∃ y4 : Int, (due_next_R a0 a1 a2 a3 a4 a5 a6 a7 a8 a9 a10 a17 y4) ∧ (req true (([], y4) = y)))))) (rqn 6 (br (decide ((wI (a17 - (y3.1))) > 59)) (rqn 2 (an 1 (rqn 3 (∃ y6 : Int, (due_next_R a0 a1 a2 a3 a4 a5 a6 a7 a8 a9 a10 a17 y6) ∧ (req true (([], y6) = y)))))) (rqn 3 (an 1 (rqn 3 (∃ y8 : Int, (due_next_R a0 a1 a2 a3 a4 a5 a6 a7 a8 a9 a10 a17 y8) ∧ (req true (([(y3.1)], y8) = y)))))))))))) ∧ (req true ((rqn 7 (∃ y10 : Int × Bool, (job_Latest_R a0 a1 a2 a3 a4 a5 a6 a7 a8 a9 a10 a17 y10) ∧ (rqn 8 (br (!(y10.2)) (rqn 5 (∃ y11 : Int, (due_next_R a0 a1 a2 a3 a4 a5 a6 a7 a8 a9 a10 a17 y11) ∧ (req true (([], y11) = y)))) (rqn 6 (br (decide ((wI (a17 - (y10.1))) > 59)) (rqn 4 (∃ y12 : Int, (due_next_R a0 a1 a2 a3 a4 a5 a6 a7 a8 a9 a10 a17 y12) ∧ (req true (([], y12) = y)))) (rqn 5 (∃ y13 : Int, (due_next_R a0 a1 a2 a3 a4 a5 a6 a7 a8 a9 a10 a17 y13) ∧ (req true (([(y10.1)], y13) = y)))))))))) ∧ (rqn 8 (∃ y14 : Int × Bool, (job_Latest_R a0 a1 a2 a3 a4 a5 a6 a7 a8 a9 a10 a17 y14) ∧ (rqn 8 (br (!(y14.2)) (rqn 4 (∃ y15 : Int, (due_next_R a0 a1 a2 a3 a4 a5 a6 a7 a8 a9 a10 a17 y15) ∧ (req true (([], y15) = y)))) (rqn 6 (br (decide ((wI (a17 - (y14.1))) > 59)) (rqn 3 (∃ y16 : Int, (due_next_R a0 a1 a2 a3 a4 a5 a6 a7 a8 a9 a10 a17 y16) ∧ (req true (([], y16) = y)))) (rqn 4 (∃ y17 : Int, (due_next_R a0 a1 a2 a3 a4 a5 a6 a7 a8 a9 a10 a17 y17) ∧ (req true (([(y14.1)], y17) = y)))))))))))) ∧ (req true ((rqn 7 (∃ y18 : Int × Bool, (job_Latest_R a0 a1 a2 a3 a4 a5 a6 a7 a8 a9 a10 a17 y18) ∧ (rqn 8 (br (!(y18.2)) (rqn 5 (∃ y19 : Int, (due_next_R a0 a1 a2 a3 a4 a5 a6 a7 a8 a9 a10 a17 y19) ∧ (req true (([], y19) = y)))) (rqn 6 (br (decide ((wI (a17 - (y18.1))) > 59)) (rqn 4 (∃ y20 : Int, (due_next_R a0 a1 a2 a3 a4 a5 a6 a7 a8 a9 a10 a17 y20) ∧ (req true (([], y20) = y)))) (rqn 5 (∃ y21 : Int, (due_next_R a0 a1 a2 a3 a4 a5 a6 a7 a8 a9 a10 a17 y21) ∧ (req true (([(y18.1)], y21) = y)))))))))) ∧ (rqn 8 (∃ y22 : Int × Bool, (job_Latest_R a0 a1 a2 a3 a4 a5 a6 a7 a8 a9 a10 a17 y22) ∧ (rqn 8 (br (!(y22.2)) (rqn 4 (∃ y23 : Int, (due_next_R a0 a1 a2 a3 a4 a5 a6 a7 a8 a9 a10 a17 y23) ∧ (req true (([], y23) = y)))) (rqn 6 (br (decide ((wI (a17 - (y22.1))) > 59)) (rqn 3 (∃ y24 : Int, (due_next_R a0 a1 a2 a3 a4 a5 a6 a7 a8 a9 a10 a17 y24) ∧ (req true (([], y24) = y)))) (rqn 4 (∃ y25 : Int, (due_next_R a0 a1 a2 a3 a4 a5 a6 a7 a8 a9 a10 a17 y25) ∧ (req true (([(y22.1)], y25) = y))))))))))))) (br ((((offN 0 a9 1) : Nat) : Int) == 1) ((rqn 8 (∃ y26 : Int × Bool, (job_Latest_R a0 a1 a2 a3 a4 a5 a6 a7 a8 a9 a10 a17 y26) ∧ (rqn 8 (br (!(y26.2)) (rqn 3 (an 1 (rqn 3 (∃ y27 : Int, (due_next_R a0 a1 a2 a3 a4 a5 a6 a7 a8 a9 a10 a17 y27) ∧ (req true (([], y27) = y)))))) (rqn 6 (br (decide ((wI (a17 - (y26.1))) > a17)) (rqn 2 (an 1 (rqn 3 (∃ y29 : Int, (due_next_R a0 a1 a2 a3 a4 a5 a6 a7 a8 a9 a10 a17 y29) ∧ (req true (([], y29) = y)))))) (rqn 3 (an 1 (rqn 3 (∃ y31 : Int, (due_next_R a0 a1 a2 a3 a4 a5 a6 a7 a8 a9 a10 a17 y31) ∧ (req true (([(y26.1)], y31) = y)))))))))))) ∧ (req true ((rqn 8 (∃ y33 : Int × Bool, (job_Latest_R a0 a1 a2 a3 a4 a5 a6 a7 a8 a9 a10 a17 y33) ∧ (rqn 8 (br (!(y33.2)) (rqn 5 (∃ y34 : Int, (due_next_R a0 a1 a2 a3 a4 a5 a6 a7 a8 a9 a10 a17 y34) ∧ (req true (([], y34) = y)))) (rqn 6 (br (decide ((wI (a17 - (y33.1))) > a17)) (rqn 4 (∃ y35 : Int, (due_next_R a0 a1 a2 a3 a4 a5 a6 a7 a8 a9 a10 a17 y35) ∧ (req true (([], y35) = y)))) (rqn 5 (∃ y36 : Int, (due_next_R a0 a1 a2 a3 a4 a5 a6 a7 a8 a9 a10 a17 y36) ∧ (req true (([(y33.1)], y36) = y)))))))))) ∧ (rqn 9 (∃ y37 : Int × Bool, (job_Latest_R a0 a1 a2 a3 a4 a5 a6 a7 a8 a9 a10 a17 y37) ∧ (rqn 8 (br (!(y37.2)) (rqn 4 (∃ y38 : Int, (due_next_R a0 a1 a2 a3 a4 a5 a6 a7 a8 a9 a10 a17 y38) ∧ (req true (([], y38) = y)))) (rqn 6 (br (decide ((wI (a17 - (y37.1))) > a17)) (rqn 3 (∃ y39 : Int, (due_next_R a0 a1 a2 a3 a4 a5 a6 a7 a8 a9 a10 a17 y39) ∧ (req true (([], y39) = y)))) (rqn 4 (∃ y40 : Int, (due_next_R a0 a1 a2 a3 a4 a5 a6 a7 a8 a9 a10 a17 y40) ∧ (req true (([(y37.1)], y40) = y)))))))))))) ∧ (req true ((rqn 8 (∃ y41 : Int × Bool, (job_Latest_R a0 a1 a2 a3 a4 a5 a6 a7 a8 a9 a10 a17 y41) ∧ (rqn 8 (br (!(y41.2)) (rqn 5 (∃ y42 : Int, (due_next_R a0 a1 a2 a3 a4 a5 a6 a7 a8 a9 a10 a17 y42) ∧ (req true (([], y42) = y)))) (rqn 6 (br (decide ((wI (a17 - (y41.1))) > a17)) (rqn 4 (∃ y43 : Int, (due_next_R a0 a1 a2 a3 a4 a5 a6 a7 a8 a9 a10 a17 y43) ∧ (req true (([], y43) = y)))) (rqn 5 (∃ y44 : Int, (due_next_R a0 a1 a2 a3 a4 a5 a6 a7 a8 a9 a10 a17 y44) ∧ (req true (([(y41.1)], y44) = y)))))))))) ∧ (rqn 9 (∃ y45 : Int × Bool, (job_Latest_R a0 a1 a2 a3 a4 a5 a6 a7 a8 a9 a10 a17 y45) ∧ (rqn 8 (br (!(y45.2)) (rqn 4 (∃ y46 : Int, (due_next_R a0 a1 a2 a3 a4 a5 a6 a7 a8 a9 a10 a17 y46) ∧ (req true (([], y46) = y)))) (rqn 6 (br (decide ((wI (a17 - (y45.1))) > a17)) (rqn 3 (∃ y47 : Int, (due_next_R a0 a1 a2 a3 a4 a5 a6 a7 a8 a9 a10 a17 y47) ∧ (req true (([], y47) = y)))) (rqn 4 (∃ y48 : Int, (due_next_R a0 a1 a2 a3 a4 a5 a6 a7 a8 a9 a10 a17 y48) ∧ (req true (([(y45.1)], y48) = y))))))))))))) (br ((((offN 0 a9 1) : Nat) : Int) == 2) ((rqn 9 (∃ y49 : List Int × Int, (job_Times_R a0 a1 a2 a3 a4 a5 a6 a7 a8 a9 a10 (wI (a12 - 1)) a17 4 y49) ∧ (∀ c50 : Nat, Nat.ble (List.length (y49.1)) c50 = true → (rqn 7 (an 1 (rqn 3 (∃ y51 : Int, (due_next_R a0 a1 a2 a3 a4 a5 a6 a7 a8 a9 a10 a17 y51) ∧ (req (((Nat.beq (List.length (y49.1)) (List.length (y49.1))) && true) && (true && true)) (((y49.1), y51) = y))))))))) ∧ (req true ((rqn 9 (∃ y53 : List Int × Int, (job_Times_R a0 a1 a2 a3 a4 a5 a6 a7 a8 a9 a10 (wI (a12 - 1)) a17 4 y53) ∧ (∀ c54 : Nat, Nat.ble (List.length (y53.1)) c54 = true → (rqn 9 (∃ y55 : Int, (due_next_R a0 a1 a2 a3 a4 a5 a6 a7 a8 a9 a10 a17 y55) ∧ (req (((Nat.beq (List.length (y53.1)) (List.length (y53.1))) && true) && (true && true)) (((y53.1), y55) = y))))))) ∧ (rqn 10 (∃ y56 : List Int × Int, (job_Times_R a0 a1 a2 a3 a4 a5 a6 a7 a8 a9 a10 (wI (a12 - 1)) a17 4 y56) ∧ (∀ c57 : Nat, Nat.ble (List.length (y56.1)) c57 = true → (rqn 8 (∃ y58 : Int, (due_next_R a0 a1 a2 a3 a4 a5 a6 a7 a8 a9 a10 a17 y58) ∧ (req (((Nat.beq (List.length (y56.1)) (List.length (y56.1))) && true) && (true && true)) (((y56.1), y58) = y))))))))) ∧ (req true ((rqn 9 (∃ y59 : List Int × Int, (job_Times_R a0 a1 a2 a3 a4 a5 a6 a7 a8 a9 a10 (wI (a12 - 1)) a17 4 y59) ∧ (∀ c60 : Nat, Nat.ble (List.length (y59.1)) c60 = true → (rqn 9 (∃ y61 : Int, (due_next_R a0 a1 a2 a3 a4 a5 a6 a7 a8 a9 a10 a17 y61) ∧ (req (((Nat.beq (List.length (y59.1)) (List.length (y59.1))) && true) && (true && true)) (((y59.1), y61) = y))))))) ∧ (rqn 10 (∃ y62 : List Int × Int, (job_Times_R a0 a1 a2 a3 a4 a5 a6 a7 a8 a9 a10 (wI (a12 - 1)) a17 4 y62) ∧ (∀ c63 : Nat, Nat.ble (List.length (y62.1)) c63 = true → (rqn 8 (∃ y64 : Int, (due_next_R a0 a1 a2 a3 a4 a5 a6 a7 a8 a9 a10 a17 y64) ∧ (req (((Nat.beq (List.length (y62.1)) (List.length (y62.1))) && true) && (true && true)) (((y62.1), y64) = y)))))))))) False))) ∧ (req true ((br ((((offN 0 a9 1) : Nat) : Int) == 0) ((rqn 7 (∃ y65 : Int × Bool, (job_Latest_R a0 a1 a2 a3 a4 a5 a6 a7 a8 a9 a10 a17 y65) ∧ (rqn 8 (br (!(y65.2)) (rqn 5 (∃ y66 : Int, (due_next_R a0 a1 a2 a3 a4 a5 a6 a7 a8 a9 a10 a17 y66) ∧ (req true (([], y66) = y)))) (rqn 6 (br (decide ((wI (a17 - (y65.1))) > 59)) (rqn 4 (∃ y67 : Int, (due_next_R a0 a1 a2 a3 a4 a5 a6 a7 a8 a9 a10 a17 y67) ∧ (req true (([], y67) = y)))) (rqn 5 (∃ y68 : Int, (due_next_R a0 a1 a2 a3 a4 a5 a6 a7 a8 a9 a10 a17 y68) ∧ (req true (([(y65.1)], y68) = y)))))))))) ∧ (rqn 8 (∃ y69 : Int × Bool, (job_Latest_R a0 a1 a2 a3 a4 a5 a6 a7 a8 a9 a10 a17 y69) ∧ (rqn 8 (br (!(y69.2)) (rqn 4 (∃ y70 : Int, (due_next_R a0 a1 a2 a3 a4 a5 a6 a7 a8 a9 a10 a17 y70) ∧ (req true (([], y70) = y)))) (rqn 6 (br (decide ((wI (a17 - (y69.1))) > 59)) (rqn 3 (∃ y71 : Int, (due_next_R a0 a1 a2 a3 a4 a5 a6 a7 a8 a9 a10 a17 y71) ∧ (req true (([], y71) = y)))) (rqn 4 (∃ y72 : Int, (due_next_R a0 a1 a2 a3 a4 a5 a6 a7 a8 a9 a10 a17 y72) ∧ (req true (([(y69.1)], y72) = y))))))))))) (br ((((offN 0 a9 1) : Nat) : Int) == 1) ((rqn 8 (∃ y73 : Int × Bool, (job_Latest_R a0 a1 a2 a3 a4 a5 a6 a7 a8 a9 a10 a17 y73) ∧ (rqn 8 (br (!(y73.2)) (rqn 5 (∃ y74 : Int, (due_next_R a0 a1 a2 a3 a4 a5 a6 a7 a8 a9 a10 a17 y74) ∧ (req true (([], y74) = y)))) (rqn 6 (br (decide ((wI (a17 - (y73.1))) > a17)) (rqn 4 (∃ y75 : Int, (due_next_R a0 a1 a2 a3 a4 a5 a6 a7 a8 a9 a10 a17 y75) ∧ (req true (([], y75) = y)))) (rqn 5 (∃ y76 : Int, (due_next_R a0 a1 a2 a3 a4 a5 a6 a7 a8 a9 a10 a17 y76) ∧ (req true (([(y73.1)], y76) = y)))))))))) ∧ (rqn 9 (∃ y77 : Int × Bool, (job_Latest_R a0 a1 a2 a3 a4 a5 a6 a7 a8 a9 a10 a17 y77) ∧ (rqn 8 (br (!(y77.2)) (rqn 4 (∃ y78 : Int, (due_next_R a0 a1 a2 a3 a4 a5 a6 a7 a8 a9 a10 a17 y78) ∧ (req true (([], y78) = y)))) (rqn 6 (br (decide ((wI (a17 - (y77.1))) > a17)) (rqn 3 (∃ y79 : Int, (due_next_R a0 a1 a2 a3 a4 a5 a6 a7 a8 a9 a10 a17 y79) ∧ (req true (([], y79) = y)))) (rqn 4 (∃ y80 : Int, (due_next_R a0 a1 a2 a3 a4 a5 a6 a7 a8 a9 a10 a17 y80) ∧ (req true (([(y77.1)], y80) = y))))))))))) (br ((((offN 0 a9 1) : Nat) : Int) == 2) ((rqn 9 (∃ y81 : List Int × Int, (job_Times_R a0 a1 a2 a3 a4 a5 a6 a7 a8 a9 a10 (wI (a12 - 1)) a17 4 y81) ∧ (∀ c82 : Nat, Nat.ble (List.length (y81.1)) c82 = true → (rqn 9 (∃ y83 : Int, (due_next_R a0 a1 a2 a3 a4 a5 a6 a7 a8 a9 a10 a17 y83) ∧ (req (((Nat.beq (List.length (y81.1)) (List.length (y81.1))) && true) && (true && true)) (((y81.1), y83) = y))))))) ∧ (rqn 10 (∃ y84 : List Int × Int, (job_Times_R a0 a1 a2 a3 a4 a5 a6 a7 a8 a9 a10 (wI (a12 - 1)) a17 4 y84) ∧ (∀ c85 : Nat, Nat.ble (List.length (y84.1)) c85 = true → (rqn 8 (∃ y86 : Int, (due_next_R a0 a1 a2 a3 a4 a5 a6 a7 a8 a9 a10 a17 y86) ∧ (req (((Nat.beq (List.length (y84.1)) (List.length (y84.1))) && true) && (true && true)) (((y84.1), y86) = y)))))))) False))) ∧ (req true (br ((((offN 0 a9 1) : Nat) : Int) == 0) (rqn 7 (∃ y87 : Int × Bool, (job_Latest_R a0 a1 a2 a3 a4 a5 a6 a7 a8 a9 a10 a17 y87) ∧ (rqn 8 (br (!(y87.2)) (rqn 4 (∃ y88 : Int, (due_next_R a0 a1 a2 a3 a4 a5 a6 a7 a8 a9 a10 a17 y88) ∧ (req true (([], y88) = y)))) (rqn 6 (br (decide ((wI (a17 - (y87.1))) > 59)) (rqn 3 (∃ y89 : Int, (due_next_R a0 a1 a2 a3 a4 a5 a6 a7 a8 a9 a10 a17 y89) ∧ (req true (([], y89) = y)))) (rqn 4 (∃ y90 : Int, (due_next_R a0 a1 a2 a3 a4 a5 a6 a7 a8 a9 a10 a17 y90) ∧ (req true (([(y87.1)], y90) = y)))))))))) (br ((((offN 0 a9 1) : Nat) : Int) == 1) (rqn 8 (∃ y91 : Int × Bool, (job_Latest_R a0 a1 a2 a3 a4 a5 a6 a7 a8 a9 a10 a17 y91) ∧ (rqn 8 (br (!(y91.2)) (rqn 4 (∃ y92 : Int, (due_next_R a0 a1 a2 a3 a4 a5 a6 a7 a8 a9 a10 a17 y92) ∧ (req true (([], y92) = y)))) (rqn 6 (br (decide ((wI (a17 - (y91.1))) > a17)) (rqn 3 (∃ y93 : Int, (due_next_R a0 a1 a2 a3 a4 a5 a6 a7 a8 a9 a10 a17 y93) ∧ (req true (([], y93) = y)))) (rqn 4 (∃ y94 : Int, (due_next_R a0 a1 a2 a3 a4 a5 a6 a7 a8 a9 a10 a17 y94) ∧ (req true (([(y91.1)], y94) = y)))))))))) (br ((((offN 0 a9 1) : Nat) : Int) == 2) (rqn 9 (∃ y95 : List Int × Int, (job_Times_R a0 a1 a2 a3 a4 a5 a6 a7 a8 a9 a10 (wI (a12 - 1)) a17 4 y95) ∧ (∀ c96 : Nat, Nat.ble (List.length (y95.1)) c96 = true → (rqn 8 (∃ y97 : Int, (due_next_R a0 a1 a2 a3 a4 a5 a6 a7 a8 a9 a10 a17 y97) ∧ (req (((Nat.beq (List.length (y95.1)) (List.length (y95.1))) && true) && (true && true)) (((y95.1), y97) = y))))))) False)))))) ∧ (req true ((br ((((offN 0 a9 1) : Nat) : Int) == 0) ((rqn 7 (∃ y98 : Int × Bool, (job_Latest_R a0 a1 a2 a3 a4 a5 a6 a7 a8 a9 a10 a17 y98) ∧ (rqn 8 (br (!(y98.2)) (rqn 5 (∃ y99 : Int, (due_next_R a0 a1 a2 a3 a4 a5 a6 a7 a8 a9 a10 a17 y99) ∧ (req true (([], y99) = y)))) (rqn 6 (br (decide ((wI (a17 - (y98.1))) > 59)) (rqn 4 (∃ y100 : Int, (due_next_R a0 a1 a2 a3 a4 a5 a6 a7 a8 a9 a10 a17 y100) ∧ (req true (([], y100) = y)))) (rqn 5 (∃ y101 : Int, (due_next_R a0 a1 a2 a3 a4 a5 a6 a7 a8 a9 a10 a17 y101) ∧ (req true (([(y98.1)], y101) = y)))))))))) ∧ (rqn 8 (∃ y102 : Int × Bool, (job_Latest_R a0 a1 a2 a3 a4 a5 a6 a7 a8 a9 a10 a17 y102) ∧ (rqn 8 (br (!(y102.2)) (rqn 4 (∃ y103 : Int, (due_next_R a0 a1 a2 a3 a4 a5 a6 a7 a8 a9 a10 a17 y103) ∧ (req true (([], y103) = y)))) (rqn 6 (br (decide ((wI (a17 - (y102.1))) > 59)) (rqn 3 (∃ y104 : Int, (due_next_R a0 a1 a2 a3 a4 a5 a6 a7 a8 a9 a10 a17 y104) ∧ (req true (([], y104) = y)))) (rqn 4 (∃ y105 : Int, (due_next_R a0 a1 a2 a3 a4 a5 a6 a7 a8 a9 a10 a17 y105) ∧ (req true (([(y102.1)], y105) = y))))))))))) (br ((((offN 0 a9 1) : Nat) : Int) == 1) ((rqn 8 (∃ y106 : Int × Bool, (job_Latest_R a0 a1 a2 a3 a4 a5 a6 a7 a8 a9 a10 a17 y106) ∧ (rqn 8 (br (!(y106.2)) (rqn 5 (∃ y107 : Int, (due_next_R a0 a1 a2 a3 a4 a5 a6 a7 a8 a9 a10 a17 y107) ∧ (req true (([], y107) = y)))) (rqn 6 (br (decide ((wI (a17 - (y106.1))) > a17)) (rqn 4 (∃ y108 : Int, (due_next_R a0 a1 a2 a3 a4 a5 a6 a7 a8 a9 a10 a17 y108) ∧ (req true (([], y108) = y)))) (rqn 5 (∃ y109 : Int, (due_next_R a0 a1 a2 a3 a4 a5 a6 a7 a8 a9 a10 a17 y109) ∧ (req true (([(y106.1)], y109) = y)))))))))) ∧ (rqn 9 (∃ y110 : Int × Bool, (job_Latest_R a0 a1 a2 a3 a4 a5 a6 a7 a8 a9 a10 a17 y110) ∧ (rqn 8 (br (!(y110.2)) (rqn 4 (∃ y111 : Int, (due_next_R a0 a1 a2 a3 a4 a5 a6 a7 a8 a9 a10 a17 y111) ∧ (req true (([], y111) = y)))) (rqn 6 (br (decide ((wI (a17 - (y110.1))) > a17)) (rqn 3 (∃ y112 : Int, (due_next_R a0 a1 a2 a3 a4 a5 a6 a7 a8 a9 a10 a17 y112) ∧ (req true (([], y112) = y)))) (rqn 4 (∃ y113 : Int, (due_next_R a0 a1 a2 a3 a4 a5 a6 a7 a8 a9 a10 a17 y113) ∧ (req true (([(y110.1)], y113) = y))))))))))) (br ((((offN 0 a9 1) : Nat) : Int) == 2) ((rqn 9 (∃ y114 : List Int × Int, (job_Times_R a0 a1 a2 a3 a4 a5 a6 a7 a8 a9 a10 (wI (a12 - 1)) a17 4 y114) ∧ (∀ c115 : Nat, Nat.ble (List.length (y114.1)) c115 = true → (rqn 9 (∃ y116 : Int, (due_next_R a0 a1 a2 a3 a4 a5 a6 a7 a8 a9 a10 a17 y116) ∧ (req (((Nat.beq (List.length (y114.1)) (List.length (y114.1))) && true) && (true && true)) (((y114.1), y116) = y))))))) ∧ (rqn 10 (∃ y117 : List Int × Int, (job_Times_R a0 a1 a2 a3 a4 a5 a6 a7 a8 a9 a10 (wI (a12 - 1)) a17 4 y117) ∧ (∀ c118 : Nat, Nat.ble (List.length (y117.1)) c118 = true → (rqn 8 (∃ y119 : Int, (due_next_R a0 a1 a2 a3 a4 a5 a6 a7 a8 a9 a10 a17 y119) ∧ (req (((Nat.beq (List.length (y117.1)) (List.length (y117.1))) && true) && (true && true)) (((y117.1), y119) = y)))))))) False))) ∧ (req true (br ((((offN 0 a9 1) : Nat) : Int) == 0) (rqn 7 (∃ y120 : Int × Bool, (job_Latest_R a0 a1 a2 a3 a4 a5 a6 a7 a8 a9 a10 a17 y120) ∧ (rqn 8 (br (!(y120.2)) (rqn 4 (∃ y121 : Int, (due_next_R a0 a1 a2 a3 a4 a5 a6 a7 a8 a9 a10 a17 y121) ∧ (req true (([], y121) = y)))) (rqn 6 (br (decide ((wI (a17 - (y120.1))) > 59)) (rqn 3 (∃ y122 : Int, (due_next_R a0 a1 a2 a3 a4 a5 a6 a7 a8 a9 a10 a17 y122) ∧ (req true (([], y122) = y)))) (rqn 4 (∃ y123 : Int, (due_next_R a0 a1 a2 a3 a4 a5 a6 a7 a8 a9 a10 a17 y123) ∧ (req true (([(y120.1)], y123) = y)))))))))) (br ((((offN 0 a9 1) : Nat) : Int) == 1) (rqn 8 (∃ y124 : Int × Bool, (job_Latest_R a0 a1 a2 a3 a4 a5 a6 a7 a8 a9 a10 a17 y124) ∧ (rqn 8 (br (!(y124.2)) (rqn 4 (∃ y125 : Int, (due_next_R a0 a1 a2 a3 a4 a5 a6 a7 a8 a9 a10 a17 y125) ∧ (req true (([], y125) = y)))) (rqn 6 (br (decide ((wI (a17 - (y124.1))) > a17)) (rqn 3 (∃ y126 : Int, (due_next_R a0 a1 a2 a3 a4 a5 a6 a7 a8 a9 a10 a17 y126) ∧ (req true (([], y126) = y)))) (rqn 4 (∃ y127 : Int, (due_next_R a0 a1 a2 a3 a4 a5 a6 a7 a8 a9 a10 a17 y127) ∧ (req true (([(y124.1)], y127) = y)))))))))) (br ((((offN 0 a9 1) : Nat) : Int) == 2) (rqn 9 (∃ y128 : List Int × Int, (job_Times_R a0 a1 a2 a3 a4 a5 a6 a7 a8 a9 a10 (wI (a12 - 1)) a17 4 y128) ∧ (∀ c129 : Nat, Nat.ble (List.length (y128.1)) c129 = true → (rqn 8 (∃ y130 : Int, (due_next_R a0 a1 a2 a3 a4 a5 a6 a7 a8 a9 a10 a17 y130) ∧ (req (((Nat.beq (List.length (y128.1)) (List.length (y128.1))) && true) && (true && true)) (((y128.1), y130) = y))))))) False)))))))) ∧ (req true ((req ((decide (0 ≤ a9)) && (decide (a9 < 3))) ((br ((((offN 0 a9 1) : Nat) : Int) == 0) ((rqn 7 (∃ y131 : Int × Bool, (job_Latest_R a0 a1 a2 a3 a4 a5 a6 a7 a8 a9 a10 a17 y131) ∧ (rqn 8 (br (!(y131.2)) (rqn 5 (∃ y132 : Int, (due_next_R a0 a1 a2 a3 a4 a5 a6 a7 a8 a9 a10 a17 y132) ∧ (req true (([], y132) = y)))) (rqn 6 (br (decide ((wI (a17 - (y131.1))) > 59)) (rqn 4 (∃ y133 : Int, (due_next_R a0 a1 a2 a3 a4 a5 a6 a7 a8 a9 a10 a17 y133) ∧ (req true (([], y133) = y)))) (rqn 5 (∃ y134 : Int, (due_next_R a0 a1 a2 a3 a4 a5 a6 a7 a8 a9 a10 a17 y134) ∧ (req true (([(y131.1)], y134) = y)))))))))) ∧ (rqn 8 (∃ y135 : Int × Bool, (job_Latest_R a0 a1 a2 a3 a4 a5 a6 a7 a8 a9 a10 a17 y135) ∧ (rqn 8 (br (!(y135.2)) (rqn 4 (∃ y136 : Int, (due_next_R a0 a1 a2 a3 a4 a5 a6 a7 a8 a9 a10 a17 y136) ∧ (req true (([], y136) = y)))) (rqn 6 (br (decide ((wI (a17 - (y135.1))) > 59)) (rqn 3 (∃ y137 : Int, (due_next_R a0 a1 a2 a3 a4 a5 a6 a7 a8 a9 a10 a17 y137) ∧ (req true (([], y137) = y)))) (rqn 4 (∃ y138 : Int, (due_next_R a0 a1 a2 a3 a4 a5 a6 a7 a8 a9 a10 a17 y138) ∧ (req true (([(y135.1)], y138) = y))))))))))) (br ((((offN 0 a9 1) : Nat) : Int) == 1) ((rqn 8 (∃ y139 : Int × Bool, (job_Latest_R a0 a1 a2 a3 a4 a5 a6 a7 a8 a9 a10 a17 y139) ∧ (rqn 8 (br (!(y139.2)) (rqn 5 (∃ y140 : Int, (due_next_R a0 a1 a2 a3 a4 a5 a6 a7 a8 a9 a10 a17 y140) ∧ (req true (([], y140) = y)))) (rqn 6 (br (decide ((wI (a17 - (y139.1))) > a17)) (rqn 4 (∃ y141 : Int, (due_next_R a0 a1 a2 a3 a4 a5 a6 a7 a8 a9 a10 a17 y141) ∧ (req true (([], y141) = y)))) (rqn 5 (∃ y142 : Int, (due_next_R a0 a1 a2 a3 a4 a5 a6 a7 a8 a9 a10 a17 y142) ∧ (req true (([(y139.1)], y142) = y)))))))))) ∧ (rqn 9 (∃ y143 : Int × Bool, (job_Latest_R a0 a1 a2 a3 a4 a5 a6 a7 a8 a9 a10 a17 y143) ∧ (rqn 8 (br (!(y143.2)) (rqn 4 (∃ y144 : Int, (due_next_R a0 a1 a2 a3 a4 a5 a6 a7 a8 a9 a10 a17 y144) ∧ (req true (([], y144) = y)))) (rqn 6 (br (decide ((wI (a17 - (y143.1))) > a17)) (rqn 3 (∃ y145 : Int, (due_next_R a0 a1 a2 a3 a4 a5 a6 a7 a8 a9 a10 a17 y145) ∧ (req true (([], y145) = y)))) (rqn 4 (∃ y146 : Int, (due_next_R a0 a1 a2 a3 a4 a5 a6 a7 a8 a9 a10 a17 y146) ∧ (req true (([(y143.1)], y146) = y))))))))))) (br ((((offN 0 a9 1) : Nat) : Int) == 2) ((rqn 9 (∃ y147 : List Int × Int, (job_Times_R a0 a1 a2 a3 a4 a5 a6 a7 a8 a9 a10 (wI (a12 - 1)) a17 4 y147) ∧ (∀ c148 : Nat, Nat.ble (List.length (y147.1)) c148 = true → (rqn 9 (∃ y149 : Int, (due_next_R a0 a1 a2 a3 a4 a5 a6 a7 a8 a9 a10 a17 y149) ∧ (req (((Nat.beq (List.length (y147.1)) (List.length (y147.1))) && true) && (true && true)) (((y147.1), y149) = y))))))) ∧ (rqn 10 (∃ y150 : List Int × Int, (job_Times_R a0 a1 a2 a3 a4 a5 a6 a7 a8 a9 a10 (wI (a12 - 1)) a17 4 y150) ∧ (∀ c151 : Nat, Nat.ble (List.length (y150.1)) c151 = true → (rqn 8 (∃ y152 : Int, (due_next_R a0 a1 a2 a3 a4 a5 a6 a7 a8 a9 a10 a17 y152) ∧ (req (((Nat.beq (List.length (y150.1)) (List.length (y150.1))) && true) && (true && true)) (((y150.1), y152) = y)))))))) False))) ∧ (req true (br ((((offN 0 a9 1) : Nat) : Int) == 0) (rqn 7 (∃ y153 : Int × Bool, (job_Latest_R a0 a1 a2 a3 a4 a5 a6 a7 a8 a9 a10 a17 y153) ∧ (rqn 8 (br (!(y153.2)) (rqn 4 (∃ y154 : Int, (due_next_R a0 a1 a2 a3 a4 a5 a6 a7 a8 a9 a10 a17 y154) ∧ (req true (([], y154) = y)))) (rqn 6 (br (decide ((wI (a17 - (y153.1))) > 59)) (rqn 3 (∃ y155 : Int, (due_next_R a0 a1 a2 a3 a4 a5 a6 a7 a8 a9 a10 a17 y155) ∧ (req true (([], y155) = y)))) (rqn 4 (∃ y156 : Int, (due_next_R a0 a1 a2 a3 a4 a5 a6 a7 a8 a9 a10 a17 y156) ∧ (req true (([(y153.1)], y156) = y)))))))))) (br ((((offN 0 a9 1) : Nat) : Int) == 1) (rqn 8 (∃ y157 : Int × Bool, (job_Latest_R a0 a1 a2 a3 a4 a5 a6 a7 a8 a9 a10 a17 y157) ∧ (rqn 8 (br (!(y157.2)) (rqn 4 (∃ y158 : Int, (due_next_R a0 a1 a2 a3 a4 a5 a6 a7 a8 a9 a10 a17 y158) ∧ (req true (([], y158) = y)))) (rqn 6 (br (decide ((wI (a17 - (y157.1))) > a17)) (rqn 3 (∃ y159 : Int, (due_next_R a0 a1 a2 a3 a4 a5 a6 a7 a8 a9 a10 a17 y159) ∧ (req true (([], y159) = y)))) (rqn 4 (∃ y160 : Int, (due_next_R a0 a1 a2 a3 a4 a5 a6 a7 a8 a9 a10 a17 y160) ∧ (req true (([(y157.1)], y160) = y)))))))))) (br ((((offN 0 a9 1) : Nat) : Int) == 2) (rqn 9 (∃ y161 : List Int × Int, (job_Times_R a0 a1 a2 a3 a4 a5 a6 a7 a8 a9 a10 (wI (a12 - 1)) a17 4 y161) ∧ (∀ c162 : Nat, Nat.ble (List.length (y161.1)) c162 = true → (rqn 8 (∃ y163 : Int, (due_next_R a0 a1 a2 a3 a4 a5 a6 a7 a8 a9 a10 a17 y163) ∧ (req (((Nat.beq (List.length (y161.1)) (List.length (y161.1))) && true) && (true && true)) (((y161.1), y163) = y))))))) False)))))) ∧ (req true (req ((decide (0 ≤ a9)) && (decide (a9 < 3))) (br ((((offN 0 a9 1) : Nat) : Int) == 0) (rqn 7 (∃ y164 : Int × Bool, (job_Latest_R a0 a1 a2 a3 a4 a5 a6 a7 a8 a9 a10 a17 y164) ∧ (rqn 8 (br (!(y164.2)) (rqn 4 (∃ y165 : Int, (due_next_R a0 a1 a2 a3 a4 a5 a6 a7 a8 a9 a10 a17 y165) ∧ (req true (([], y165) = y)))) (rqn 6 (br (decide ((wI (a17 - (y164.1))) > 59)) (rqn 3 (∃ y166 : Int, (due_next_R a0 a1 a2 a3 a4 a5 a6 a7 a8 a9 a10 a17 y166) ∧ (req true (([], y166) = y)))) (rqn 4 (∃ y167 : Int, (due_next_R a0 a1 a2 a3 a4 a5 a6 a7 a8 a9 a10 a17 y167) ∧ (req true (([(y164.1)], y167) = y)))))))))) (br ((((offN 0 a9 1) : Nat) : Int) == 1) (rqn 8 (∃ y168 : Int × Bool, (job_Latest_R a0 a1 a2 a3 a4 a5 a6 a7 a8 a9 a10 a17 y168) ∧ (rqn 8 (br (!(y168.2)) (rqn 4 (∃ y169 : Int, (due_next_R a0 a1 a2 a3 a4 a5 a6 a7 a8 a9 a10 a17 y169) ∧ (req true (([], y169) = y)))) (rqn 6 (br (decide ((wI (a17 - (y168.1))) > a17)) (rqn 3 (∃ y170 : Int, (due_next_R a0 a1 a2 a3 a4 a5 a6 a7 a8 a9 a10 a17 y170) ∧ (req true (([], y170) = y)))) (rqn 4 (∃ y171 : Int, (due_next_R a0 a1 a2 a3 a4 a5 a6 a7 a8 a9 a10 a17 y171) ∧ (req true (([(y168.1)], y171) = y)))))))))) (br ((((offN 0 a9 1) : Nat) : Int) == 2) (rqn 9 (∃ y172 : List Int × Int, (job_Times_R a0 a1 a2 a3 a4 a5 a6 a7 a8 a9 a10 (wI (a12 - 1)) a17 4 y172) ∧ (∀ c173 : Nat, Nat.ble (List.length (y172.1)) c173 = true → (rqn 8 (∃ y174 : Int, (due_next_R a0 a1 a2 a3 a4 a5 a6 a7 a8 a9 a10 a17 y174) ∧ (req (((Nat.beq (List.length (y172.1)) (List.length (y172.1))) && true) && (true && true)) (((y172.1), y174) = y))))))) False))))))) ∧ (req true ((req ((decide (0 ≤ a9)) && (decide (a9 < 3))) ((br ((((offN 0 a9 1) : Nat) : Int) == 0) ((rqn 7 (∃ y175 : Int × Bool, (job_Latest_R a0 a1 a2 a3 a4 a5 a6 a7 a8 a9 a10 a17 y175) ∧ (rqn 8 (br (!(y175.2)) (rqn 5 (∃ y176 : Int, (due_next_R a0 a1 a2 a3 a4 a5 a6 a7 a8 a9 a10 a17 y176) ∧ (req true (([], y176) = y)))) (rqn 6 (br (decide ((wI (a17 - (y175.1))) > 59)) (rqn 4 (∃ y177 : Int, (due_next_R a0 a1 a2 a3 a4 a5 a6 a7 a8 a9 a10 a17 y177) ∧ (req true (([], y177) = y)))) (rqn 5 (∃ y178 : Int, (due_next_R a0 a1 a2 a3 a4 a5 a6 a7 a8 a9 a10 a17 y178) ∧ (req true (([(y175.1)], y178) = y)))))))))) ∧ (rqn 8 (∃ y179 : Int × Bool, (job_Latest_R a0 a1 a2 a3 a4 a5 a6 a7 a8 a9 a10 a17 y179) ∧ (rqn 8 (br (!(y179.2)) (rqn 4 (∃ y180 : Int, (due_next_R a0 a1 a2 a3 a4 a5 a6 a7 a8 a9 a10 a17 y180) ∧ (req true (([], y180) = y)))) (rqn 6 (br (decide ((wI (a17 - (y179.1))) > 59)) (rqn 3 (∃ y181 : Int, (due_next_R a0 a1 a2 a3 a4 a5 a6 a7 a8 a9 a10 a17 y181) ∧ (req true (([], y181) = y)))) (rqn 4 (∃ y182 : Int, (due_next_R a0 a1 a2 a3 a4 a5 a6 a7 a8 a9 a10 a17 y182) ∧ (req true (([(y179.1)], y182) = y))))))))))) (br ((((offN 0 a9 1) : Nat) : Int) == 1) ((rqn 8 (∃ y183 : Int × Bool, (job_Latest_R a0 a1 a2 a3 a4 a5 a6 a7 a8 a9 a10 a17 y183) ∧ (rqn 8 (br (!(y183.2)) (rqn 5 (∃ y184 : Int, (due_next_R a0 a1 a2 a3 a4 a5 a6 a7 a8 a9 a10 a17 y184) ∧ (req true (([], y184) = y)))) (rqn 6 (br (decide ((wI (a17 - (y183.1))) > a17)) (rqn 4 (∃ y185 : Int, (due_next_R a0 a1 a2 a3 a4 a5 a6 a7 a8 a9 a10 a17 y185) ∧ (req true (([], y185) = y)))) (rqn 5 (∃ y186 : Int, (due_next_R a0 a1 a2 a3 a4 a5 a6 a7 a8 a9 a10 a17 y186) ∧ (req true (([(y183.1)], y186) = y)))))))))) ∧ (rqn 9 (∃ y187 : Int × Bool, (job_Latest_R a0 a1 a2 a3 a4 a5 a6 a7 a8 a9 a10 a17 y187) ∧ (rqn 8 (br (!(y187.2)) (rqn 4 (∃ y188 : Int, (due_next_R a0 a1 a2 a3 a4 a5 a6 a7 a8 a9 a10 a17 y188) ∧ (req true (([], y188) = y)))) (rqn 6 (br (decide ((wI (a17 - (y187.1))) > a17)) (rqn 3 (∃ y189 : Int, (due_next_R a0 a1 a2 a3 a4 a5 a6 a7 a8 a9 a10 a17 y189) ∧ (req true (([], y189) = y)))) (rqn 4 (∃ y190 : Int, (due_next_R a0 a1 a2 a3 a4 a5 a6 a7 a8 a9 a10 a17 y190) ∧ (req true (([(y187.1)], y190) = y))))))))))) (br ((((offN 0 a9 1) : Nat) : Int) == 2) ((rqn 9 (∃ y191 : List Int × Int, (job_Times_R a0 a1 a2 a3 a4 a5 a6 a7 a8 a9 a10 (wI (a12 - 1)) a17 4 y191) ∧ (∀ c192 : Nat, Nat.ble (List.length (y191.1)) c192 = true → (rqn 9 (∃ y193 : Int, (due_next_R a0 a1 a2 a3 a4 a5 a6 a7 a8 a9 a10 a17 y193) ∧ (req (((Nat.beq (List.length (y191.1)) (List.length (y191.1))) && true) && (true && true)) (((y191.1), y193) = y))))))) ∧ (rqn 10 (∃ y194 : List Int × Int, (job_Times_R a0 a1 a2 a3 a4 a5 a6 a7 a8 a9 a10 (wI (a12 - 1)) a17 4 y194) ∧ (∀ c195 : Nat, Nat.ble (List.length (y194.1)) c195 = true → (rqn 8 (∃ y196 : Int, (due_next_R a0 a1 a2 a3 a4 a5 a6 a7 a8 a9 a10 a17 y196) ∧ (req (((Nat.beq (List.length (y194.1)) (List.length (y194.1))) && true) && (true && true)) (((y194.1), y196) = y)))))))) False))) ∧ (req true (br ((((offN 0 a9 1) : Nat) : Int) == 0) (rqn 7 (∃ y197 : Int × Bool, (job_Latest_R a0 a1 a2 a3 a4 a5 a6 a7 a8 a9 a10 a17 y197) ∧ (rqn 8 (br (!(y197.2)) (rqn 4 (∃ y198 : Int, (due_next_R a0 a1 a2 a3 a4 a5 a6 a7 a8 a9 a10 a17 y198) ∧ (req true (([], y198) = y)))) (rqn 6 (br (decide ((wI (a17 - (y197.1))) > 59)) (rqn 3 (∃ y199 : Int, (due_next_R a0 a1 a2 a3 a4 a5 a6 a7 a8 a9 a10 a17 y199) ∧ (req true (([], y199) = y)))) (rqn 4 (∃ y200 : Int, (due_next_R a0 a1 a2 a3 a4 a5 a6 a7 a8 a9 a10 a17 y200) ∧ (req true (([(y197.1)], y200) = y)))))))))) (br ((((offN 0 a9 1) : Nat) : Int) == 1) (rqn 8 (∃ y201 : Int × Bool, (job_Latest_R a0 a1 a2 a3 a4 a5 a6 a7 a8 a9 a10 a17 y201) ∧ (rqn 8 (br (!(y201.2)) (rqn 4 (∃ y202 : Int, (due_next_R a0 a1 a2 a3 a4 a5 a6 a7 a8 a9 a10 a17 y202) ∧ (req true (([], y202) = y)))) (rqn 6 (br (decide ((wI (a17 - (y201.1))) > a17)) (rqn 3 (∃ y203 : Int, (due_next_R a0 a1 a2 a3 a4 a5 a6 a7 a8 a9 a10 a17 y203) ∧ (req true (([], y203) = y)))) (rqn 4 (∃ y204 : Int, (due_next_R a0 a1 a2 a3 a4 a5 a6 a7 a8 a9 a10 a17 y204) ∧ (req true (([(y201.1)], y204) = y)))))))))) (br ((((offN 0 a9 1) : Nat) : Int) == 2) (rqn 9 (∃ y205 : List Int × Int, (job_Times_R a0 a1 a2 a3 a4 a5 a6 a7 a8 a9 a10 (wI (a12 - 1)) a17 4 y205) ∧ (∀ c206 : Nat, Nat.ble (List.length (y205.1)) c206 = true → (rqn 8 (∃ y207 : Int, (due_next_R a0 a1 a2 a3 a4 a5 a6 a7 a8 a9 a10 a17 y207) ∧ (req (((Nat.beq (List.length (y205.1)) (List.length (y205.1))) && true) && (true && true)) (((y205.1), y207) = y))))))) False)))))) ∧ (req true (req ((decide (0 ≤ a9)) && (decide (a9 < 3))) (br ((((offN 0 a9 1) : Nat) : Int) == 0) (rqn 7 (∃ y208 : Int × Bool, (job_Latest_R a0 a1 a2 a3 a4 a5 a6 a7 a8 a9 a10 a17 y208) ∧ (rqn 8 (br (!(y208.2)) (rqn 4 (∃ y209 : Int, (due_next_R a0 a1 a2 a3 a4 a5 a6 a7 a8 a9 a10 a17 y209) ∧ (req true (([], y209) = y)))) (rqn 6 (br (decide ((wI (a17 - (y208.1))) > 59)) (rqn 3 (∃ y210 : Int, (due_next_R a0 a1 a2 a3 a4 a5 a6 a7 a8 a9 a10 a17 y210) ∧ (req true (([], y210) = y)))) (rqn 4 (∃ y211 : Int, (due_next_R a0 a1 a2 a3 a4 a5 a6 a7 a8 a9 a10 a17 y211) ∧ (req true (([(y208.1)], y211) = y)))))))))) (br ((((offN 0 a9 1) : Nat) : Int) == 1) (rqn 8 (∃ y212 : Int × Bool, (job_Latest_R a0 a1 a2 a3 a4 a5 a6 a7 a8 a9 a10 a17 y212) ∧ (rqn 8 (br (!(y212.2)) (rqn 4 (∃ y213 : Int, (due_next_R a0 a1 a2 a3 a4 a5 a6 a7 a8 a9 a10 a17 y213) ∧ (req true (([], y213) = y)))) (rqn 6 (br (decide ((wI (a17 - (y212.1))) > a17)) (rqn 3 (∃ y214 : Int, (due_next_R a0 a1 a2 a3 a4 a5 a6 a7 a8 a9 a10 a17 y214) ∧ (req true (([], y214) = y)))) (rqn 4 (∃ y215 : Int, (due_next_R a0 a1 a2 a3 a4 a5 a6 a7 a8 a9 a10 a17 y215) ∧ (req true (([(y212.1)], y215) = y)))))))))) (br ((((offN 0 a9 1) : Nat) : Int) == 2) (rqn 9 (∃ y216 : List Int × Int, (job_Times_R a0 a1 a2 a3 a4 a5 a6 a7 a8 a9 a10 (wI (a12 - 1)) a17 4 y216) ∧ (∀ c217 : Nat, Nat.ble (List.length (y216.1)) c217 = true → (rqn 8 (∃ y218 : Int, (due_next_R a0 a1 a2 a3 a4 a5 a6 a7 a8 a9 a10 a17 y218) ∧ (req (((Nat.beq (List.length (y216.1)) (List.length (y216.1))) && true) && (true && true)) (((y216.1), y218) = y))))))) False))))))))) ∧ (req true ((req true ((req ((decide (0 ≤ a9)) && (decide (a9 < 3))) ((br ((((offN 0 a9 1) : Nat) : Int) == 0) ((rqn 7 (∃ y219 : Int × Bool, (job_Latest_R a0 a1 a2 a3 a4 a5 a6 a7 a8 a9 a10 a17 y219) ∧ (rqn 8 (br (!(y219.2)) (rqn 5 (∃ y220 : Int, (due_next_R a0 a1 a2 a3 a4 a5 a6 a7 a8 a9 a10 a17 y220) ∧ (req true (([], y220) = y)))) (rqn 6 (br (decide ((wI (a17 - (y219.1))) > 59)) (rqn 4 (∃ y221 : Int, (due_next_R a0 a1 a2 a3 a4 a5 a6 a7 a8 a9 a10 a17 y221) ∧ (req true (([], y221) = y)))) (rqn 5 (∃ y222 : Int, (due_next_R a0 a1 a2 a3 a4 a5 a6 a7 a8 a9 a10 a17 y222) ∧ (req true (([(y219.1)], y222) = y)))))))))) ∧ (rqn 8 (∃ y223 : Int × Bool, (job_Latest_R a0 a1 a2 a3 a4 a5 a6 a7 a8 a9 a10 a17 y223) ∧ (rqn 8 (br (!(y223.2)) (rqn 4 (∃ y224 : Int, (due_next_R a0 a1 a2 a3 a4 a5 a6 a7 a8 a9 a10 a17 y224) ∧ (req true (([], y224) = y)))) (rqn 6 (br (decide ((wI (a17 - (y223.1))) > 59)) (rqn 3 (∃ y225 : Int, (due_next_R a0 a1 a2 a3 a4 a5 a6 a7 a8 a9 a10 a17 y225) ∧ (req true (([], y225) = y)))) (rqn 4 (∃ y226 : Int, (due_next_R a0 a1 a2 a3 a4 a5 a6 a7 a8 a9 a10 a17 y226) ∧ (req true (([(y223.1)], y226) = y))))))))))) (br ((((offN 0 a9 1) : Nat) : Int) == 1) ((rqn 8 (∃ y227 : Int × Bool, (job_Latest_R a0 a1 a2 a3 a4 a5 a6 a7 a8 a9 a10 a17 y227) ∧ (rqn 8 (br (!(y227.2)) (rqn 5 (∃ y228 : Int, (due_next_R a0 a1 a2 a3 a4 a5 a6 a7 a8 a9 a10 a17 y228) ∧ (req true (([], y228) = y)))) (rqn 6 (br (decide ((wI (a17 - (y227.1))) > a17)) (rqn 4 (∃ y229 : Int, (due_next_R a0 a1 a2 a3 a4 a5 a6 a7 a8 a9 a10 a17 y229) ∧ (req true (([], y229) = y)))) (rqn 5 (∃ y230 : Int, (due_next_R a0 a1 a2 a3 a4 a5 a6 a7 a8 a9 a10 a17 y230) ∧ (req true (([(y227.1)], y230) = y)))))))))) ∧ (rqn 9 (∃ y231 : Int × Bool, (job_Latest_R a0 a1 a2 a3 a4 a5 a6 a7 a8 a9 a10 a17 y231) ∧ (rqn 8 (br (!(y231.2)) (rqn 4 (∃ y232 : Int, (due_next_R a0 a1 a2 a3 a4 a5 a6 a7 a8 a9 a10 a17 y232) ∧ (req true (([], y232) = y)))) (rqn 6 (br (decide ((wI (a17 - (y231.1))) > a17)) (rqn 3 (∃ y233 : Int, (due_next_R a0 a1 a2 a3 a4 a5 a6 a7 a8 a9 a10 a17 y233) ∧ (req true (([], y233) = y)))) (rqn 4 (∃ y234 : Int, (due_next_R a0 a1 a2 a3 a4 a5 a6 a7 a8 a9 a10 a17 y234) ∧ (req true (([(y231.1)], y234) = y))))))))))) (br ((((offN 0 a9 1) : Nat) : Int) == 2) ((rqn 9 (∃ y235 : List Int × Int, (job_Times_R a0 a1 a2 a3 a4 a5 a6 a7 a8 a9 a10 (wI (a12 - 1)) a17 4 y235) ∧ (∀ c236 : Nat, Nat.ble (List.length (y235.1)) c236 = true → (rqn 9 (∃ y237 : Int, (due_next_R a0 a1 a2 a3 a4 a5 a6 a7 a8 a9 a10 a17 y237) ∧ (req (((Nat.beq (List.length (y235.1)) (List.length (y235.1))) && true) && (true && true)) (((y235.1), y237) = y))))))) ∧ (rqn 10 (∃ y238 : List Int × Int, (job_Times_R a0 a1 a2 a3 a4 a5 a6 a7 a8 a9 a10 (wI (a12 - 1)) a17 4 y238) ∧ (∀ c239 : Nat, Nat.ble (List.length (y238.1)) c239 = true → (rqn 8 (∃ y240 : Int, (due_next_R a0 a1 a2 a3 a4 a5 a6 a7 a8 a9 a10 a17 y240) ∧ (req (((Nat.beq (List.length (y238.1)) (List.length (y238.1))) && true) && (true && true)) (((y238.1), y240) = y)))))))) False))) ∧ (req true (br ((((offN 0 a9 1) : Nat) : Int) == 0) (rqn 7 (∃ y241 : Int × Bool, (job_Latest_R a0 a1 a2 a3 a4 a5 a6 a7 a8 a9 a10 a17 y241) ∧ (rqn 8 (br (!(y241.2)) (rqn 4 (∃ y242 : Int, (due_next_R a0 a1 a2 a3 a4 a5 a6 a7 a8 a9 a10 a17 y242) ∧ (req true (([], y242) = y)))) (rqn 6 (br (decide ((wI (a17 - (y241.1))) > 59)) (rqn 3 (∃ y243 : Int, (due_next_R a0 a1 a2 a3 a4 a5 a6 a7 a8 a9 a10 a17 y243) ∧ (req true (([], y243) = y)))) (rqn 4 (∃ y244 : Int, (due_next_R a0 a1 a2 a3 a4 a5 a6 a7 a8 a9 a10 a17 y244) ∧ (req true (([(y241.1)], y244) = y)))))))))) (br ((((offN 0 a9 1) : Nat) : Int) == 1) (rqn 8 (∃ y245 : Int × Bool, (job_Latest_R a0 a1 a2 a3 a4 a5 a6 a7 a8 a9 a10 a17 y245) ∧ (rqn 8 (br (!(y245.2)) (rqn 4 (∃ y246 : Int, (due_next_R a0 a1 a2 a3 a4 a5 a6 a7 a8 a9 a10 a17 y246) ∧ (req true (([], y246) = y)))) (rqn 6 (br (decide ((wI (a17 - (y245.1))) > a17)) (rqn 3 (∃ y247 : Int, (due_next_R a0 a1 a2 a3 a4 a5 a6 a7 a8 a9 a10 a17 y247) ∧ (req true (([], y247) = y)))) (rqn 4 (∃ y248 : Int, (due_next_R a0 a1 a2 a3 a4 a5 a6 a7 a8 a9 a10 a17 y248) ∧ (req true (([(y245.1)], y248) = y)))))))))) (br ((((offN 0 a9 1) : Nat) : Int) == 2) (rqn 9 (∃ y249 : List Int × Int, (job_Times_R a0 a1 a2 a3 a4 a5 a6 a7 a8 a9 a10 (wI (a12 - 1)) a17 4 y249) ∧ (∀ c250 : Nat, Nat.ble (List.length (y249.1)) c250 = true → (rqn 8 (∃ y251 : Int, (due_next_R a0 a1 a2 a3 a4 a5 a6 a7 a8 a9 a10 a17 y251) ∧ (req (((Nat.beq (List.length (y249.1)) (List.length (y249.1))) && true) && (true && true)) (((y249.1), y251) = y))))))) False)))))) ∧ (req true (req ((decide (0 ≤ a9)) && (decide (a9 < 3))) (br ((((offN 0 a9 1) : Nat) : Int) == 0) (rqn 7 (∃ y252 : Int × Bool, (job_Latest_R a0 a1 a2 a3 a4 a5 a6 a7 a8 a9 a10 a17 y252) ∧ (rqn 8 (br (!(y252.2)) (rqn 4 (∃ y253 : Int, (due_next_R a0 a1 a2 a3 a4 a5 a6 a7 a8 a9 a10 a17 y253) ∧ (req true (([], y253) = y)))) (rqn 6 (br (decide ((wI (a17 - (y252.1))) > 59)) (rqn 3 (∃ y254 : Int, (due_next_R a0 a1 a2 a3 a4 a5 a6 a7 a8 a9 a10 a17 y254) ∧ (req true (([], y254) = y)))) (rqn 4 (∃ y255 : Int, (due_next_R a0 a1 a2 a3 a4 a5 a6 a7 a8 a9 a10 a17 y255) ∧ (req true (([(y252.1)], y255) = y)))))))))) (br ((((offN 0 a9 1) : Nat) : Int) == 1) (rqn 8 (∃ y256 : Int × Bool, (job_Latest_R a0 a1 a2 a3 a4 a5 a6 a7 a8 a9 a10 a17 y256) ∧ (rqn 8 (br (!(y256.2)) (rqn 4 (∃ y257 : Int, (due_next_R a0 a1 a2 a3 a4 a5 a6 a7 a8 a9 a10 a17 y257) ∧ (req true (([], y257) = y)))) (rqn 6 (br (decide ((wI (a17 - (y256.1))) > a17)) (rqn 3 (∃ y258 : Int, (due_next_R a0 a1 a2 a3 a4 a5 a6 a7 a8 a9 a10 a17 y258) ∧ (req true (([], y258) = y)))) (rqn 4 (∃ y259 : Int, (due_next_R a0 a1 a2 a3 a4 a5 a6 a7 a8 a9 a10 a17 y259) ∧ (req true (([(y256.1)], y259) = y)))))))))) (br ((((offN 0 a9 1) : Nat) : Int) == 2) (rqn 9 (∃ y260 : List Int × Int, (job_Times_R a0 a1 a2 a3 a4 a5 a6 a7 a8 a9 a10 (wI (a12 - 1)) a17 4 y260) ∧ (∀ c261 : Nat, Nat.ble (List.length (y260.1)) c261 = true → (rqn 8 (∃ y262 : Int, (due_next_R a0 a1 a2 a3 a4 a5 a6 a7 a8 a9 a10 a17 y262) ∧ (req (((Nat.beq (List.length (y260.1)) (List.length (y260.1))) && true) && (true && true)) (((y260.1), y262) = y))))))) False))))))) ∧ (rqn 2 (req ((decide (0 ≤ a9)) && (decide (a9 < 3))) (br ((((offN 0 a9 1) : Nat) : Int) == 0) (rqn 7 (∃ y263 : Int × Bool, (job_Latest_R a0 a1 a2 a3 a4 a5 a6 a7 a8 a9 a10 a17 y263) ∧ (rqn 8 (br (!(y263.2)) (rqn 4 (∃ y264 : Int, (due_next_R a0 a1 a2 a3 a4 a5 a6 a7 a8 a9 a10 a17 y264) ∧ (req true (([], y264) = y)))) (rqn 6 (br (decide ((wI (a17 - (y263.1))) > 59)) (rqn 3 (∃ y265 : Int, (due_next_R a0 a1 a2 a3 a4 a5 a6 a7 a8 a9 a10 a17 y265) ∧ (req true (([], y265) = y)))) (rqn 4 (∃ y266 : Int, (due_next_R a0 a1 a2 a3 a4 a5 a6 a7 a8 a9 a10 a17 y266) ∧ (req true (([(y263.1)], y266) = y)))))))))) (br ((((offN 0 a9 1) : Nat) : Int) == 1) (rqn 8 (∃ y267 : Int × Bool, (job_Latest_R a0 a1 a2 a3 a4 a5 a6 a7 a8 a9 a10 a17 y267) ∧ (rqn 8 (br (!(y267.2)) (rqn 4 (∃ y268 : Int, (due_next_R a0 a1 a2 a3 a4 a5 a6 a7 a8 a9 a10 a17 y268) ∧ (req true (([], y268) = y)))) (rqn 6 (br (decide ((wI (a17 - (y267.1))) > a17)) (rqn 3 (∃ y269 : Int, (due_next_R a0 a1 a2 a3 a4 a5 a6 a7 a8 a9 a10 a17 y269) ∧ (req true (([], y269) = y)))) (rqn 4 (∃ y270 : Int, (due_next_R a0 a1 a2 a3 a4 a5 a6 a7 a8 a9 a10 a17 y270) ∧ (req true (([(y267.1)], y270) = y)))))))))) (br ((((offN 0 a9 1) : Nat) : Int) == 2) (rqn 9 (∃ y271 : List Int × Int, (job_Times_R a0 a1 a2 a3 a4 a5 a6 a7 a8 a9 a10 (wI (a12 - 1)) a17 4 y271) ∧ (∀ c272 : Nat, Nat.ble (List.length (y271.1)) c272 = true → (rqn 8 (∃ y273 : Int, (due_next_R a0 a1 a2 a3 a4 a5 a6 a7 a8 a9 a10 a17 y273) ∧ (req (((Nat.beq (List.length (y271.1)) (List.length (y271.1))) && true) && (true && true)) (((y271.1), y273) = y))))))) False))))))) ∧ (req true ((req true ((req ((decide (0 ≤ a9)) && (decide (a9 < 3))) ((br ((((offN 0 a9 1) : Nat) : Int) == 0) ((rqn 7 (∃ y274 : Int × Bool, (job_Latest_R a0 a1 a2 a3 a4 a5 a6 a7 a8 a9 a10 a17 y274) ∧ (rqn 8 (br (!(y274.2)) (rqn 5 (∃ y275 : Int, (due_next_R a0 a1 a2 a3 a4 a5 a6 a7 a8 a9 a10 a17 y275) ∧ (req true (([], y275) = y)))) (rqn 6 (br (decide ((wI (a17 - (y274.1))) > 59)) (rqn 4 (∃ y276 : Int, (due_next_R a0 a1 a2 a3 a4 a5 a6 a7 a8 a9 a10 a17 y276) ∧ (req true (([], y276) = y)))) (rqn 5 (∃ y277 : Int, (due_next_R a0 a1 a2 a3 a4 a5 a6 a7 a8 a9 a10 a17 y277) ∧ (req true (([(y274.1)], y277) = y)))))))))) ∧ (rqn 8 (∃ y278 : Int × Bool, (job_Latest_R a0 a1 a2 a3 a4 a5 a6 a7 a8 a9 a10 a17 y278) ∧ (rqn 8 (br (!(y278.2)) (rqn 4 (∃ y279 : Int, (due_next_R a0 a1 a2 a3 a4 a5 a6 a7 a8 a9 a10 a17 y279) ∧ (req true (([], y279) = y)))) (rqn 6 (br (decide ((wI (a17 - (y278.1))) > 59)) (rqn 3 (∃ y280 : Int, (due_next_R a0 a1 a2 a3 a4 a5 a6 a7 a8 a9 a10 a17 y280) ∧ (req true (([], y280) = y)))) (rqn 4 (∃ y281 : Int, (due_next_R a0 a1 a2 a3 a4 a5 a6 a7 a8 a9 a10 a17 y281) ∧ (req true (([(y278.1)], y281) = y))))))))))) (br ((((offN 0 a9 1) : Nat) : Int) == 1) ((rqn 8 (∃ y282 : Int × Bool, (job_Latest_R a0 a1 a2 a3 a4 a5 a6 a7 a8 a9 a10 a17 y282) ∧ (rqn 8 (br (!(y282.2)) (rqn 5 (∃ y283 : Int, (due_next_R a0 a1 a2 a3 a4 a5 a6 a7 a8 a9 a10 a17 y283) ∧ (req true (([], y283) = y)))) (rqn 6 (br (decide ((wI (a17 - (y282.1))) > a17)) (rqn 4 (∃ y284 : Int, (due_next_R a0 a1 a2 a3 a4 a5 a6 a7 a8 a9 a10 a17 y284) ∧ (req true (([], y284) = y)))) (rqn 5 (∃ y285 : Int, (due_next_R a0 a1 a2 a3 a4 a5 a6 a7 a8 a9 a10 a17 y285) ∧ (req true (([(y282.1)], y285) = y)))))))))) ∧ (rqn 9 (∃ y286 : Int × Bool, (job_Latest_R a0 a1 a2 a3 a4 a5 a6 a7 a8 a9 a10 a17 y286) ∧ (rqn 8 (br (!(y286.2)) (rqn 4 (∃ y287 : Int, (due_next_R a0 a1 a2 a3 a4 a5 a6 a7 a8 a9 a10 a17 y287) ∧ (req true (([], y287) = y)))) (rqn 6 (br (decide ((wI (a17 - (y286.1))) > a17)) (rqn 3 (∃ y288 : Int, (due_next_R a0 a1 a2 a3 a4 a5 a6 a7 a8 a9 a10 a17 y288) ∧ (req true (([], y288) = y)))) (rqn 4 (∃ y289 : Int, (due_next_R a0 a1 a2 a3 a4 a5 a6 a7 a8 a9 a10 a17 y289) ∧ (req true (([(y286.1)], y289) = y))))))))))) (br ((((offN 0 a9 1) : Nat) : Int) == 2) ((rqn 9 (∃ y290 : List Int × Int, (job_Times_R a0 a1 a2 a3 a4 a5 a6 a7 a8 a9 a10 (wI (a12 - 1)) a17 4 y290) ∧ (∀ c291 : Nat, Nat.ble (List.length (y290.1)) c291 = true → (rqn 9 (∃ y292 : Int, (due_next_R a0 a1 a2 a3 a4 a5 a6 a7 a8 a9 a10 a17 y292) ∧ (req (((Nat.beq (List.length (y290.1)) (List.length (y290.1))) && true) && (true && true)) (((y290.1), y292) = y))))))) ∧ (rqn 10 (∃ y293 : List Int × Int, (job_Times_R a0 a1 a2 a3 a4 a5 a6 a7 a8 a9 a10 (wI (a12 - 1)) a17 4 y293) ∧ (∀ c294 : Nat, Nat.ble (List.length (y293.1)) c294 = true → (rqn 8 (∃ y295 : Int, (due_next_R a0 a1 a2 a3 a4 a5 a6 a7 a8 a9 a10 a17 y295) ∧ (req (((Nat.beq (List.length (y293.1)) (List.length (y293.1))) && true) && (true && true)) (((y293.1), y295) = y)))))))) False))) ∧ (req true (br ((((offN 0 a9 1) : Nat) : Int) == 0) (rqn 7 (∃ y296 : Int × Bool, (job_Latest_R a0 a1 a2 a3 a4 a5 a6 a7 a8 a9 a10 a17 y296) ∧ (rqn 8 (br (!(y296.2)) (rqn 4 (∃ y297 : Int, (due_next_R a0 a1 a2 a3 a4 a5 a6 a7 a8 a9 a10 a17 y297) ∧ (req true (([], y297) = y)))) (rqn 6 (br (decide ((wI (a17 - (y296.1))) > 59)) (rqn 3 (∃ y298 : Int, (due_next_R a0 a1 a2 a3 a4 a5 a6 a7 a8 a9 a10 a17 y298) ∧ (req true (([], y298) = y)))) (rqn 4 (∃ y299 : Int, (due_next_R a0 a1 a2 a3 a4 a5 a6 a7 a8 a9 a10 a17 y299) ∧ (req true (([(y296.1)], y299) = y)))))))))) (br ((((offN 0 a9 1) : Nat) : Int) == 1) (rqn 8 (∃ y300 : Int × Bool, (job_Latest_R a0 a1 a2 a3 a4 a5 a6 a7 a8 a9 a10 a17 y300) ∧ (rqn 8 (br (!(y300.2)) (rqn 4 (∃ y301 : Int, (due_next_R a0 a1 a2 a3 a4 a5 a6 a7 a8 a9 a10 a17 y301) ∧ (req true (([], y301) = y)))) (rqn 6 (br (decide ((wI (a17 - (y300.1))) > a17)) (rqn 3 (∃ y302 : Int, (due_next_R a0 a1 a2 a3 a4 a5 a6 a7 a8 a9 a10 a17 y302) ∧ (req true (([], y302) = y)))) (rqn 4 (∃ y303 : Int, (due_next_R a0 a1 a2 a3 a4 a5 a6 a7 a8 a9 a10 a17 y303) ∧ (req true (([(y300.1)], y303) = y)))))))))) (br ((((offN 0 a9 1) : Nat) : Int) == 2) (rqn 9 (∃ y304 : List Int × Int, (job_Times_R a0 a1 a2 a3 a4 a5 a6 a7 a8 a9 a10 (wI (a12 - 1)) a17 4 y304) ∧ (∀ c305 : Nat, Nat.ble (List.length (y304.1)) c305 = true → (rqn 8 (∃ y306 : Int, (due_next_R a0 a1 a2 a3 a4 a5 a6 a7 a8 a9 a10 a17 y306) ∧ (req (((Nat.beq (List.length (y304.1)) (List.length (y304.1))) && true) && (true && true)) (((y304.1), y306) = y))))))) False)))))) ∧ (req true (req ((decide (0 ≤ a9)) && (decide (a9 < 3))) (br ((((offN 0 a9 1) : Nat) : Int) == 0) (rqn 7 (∃ y307 : Int × Bool, (job_Latest_R a0 a1 a2 a3 a4 a5 a6 a7 a8 a9 a10 a17 y307) ∧ (rqn 8 (br (!(y307.2)) (rqn 4 (∃ y308 : Int, (due_next_R a0 a1 a2 a3 a4 a5 a6 a7 a8 a9 a10 a17 y308) ∧ (req true (([], y308) = y)))) (rqn 6 (br (decide ((wI (a17 - (y307.1))) > 59)) (rqn 3 (∃ y309 : Int, (due_next_R a0 a1 a2 a3 a4 a5 a6 a7 a8 a9 a10 a17 y309) ∧ (req true (([], y309) = y)))) (rqn 4 (∃ y310 : Int, (due_next_R a0 a1 a2 a3 a4 a5 a6 a7 a8 a9 a10 a17 y310) ∧ (req true (([(y307.1)], y310) = y)))))))))) (br ((((offN 0 a9 1) : Nat) : Int) == 1) (rqn 8 (∃ y311 : Int × Bool, (job_Latest_R a0 a1 a2 a3 a4 a5 a6 a7 a8 a9 a10 a17 y311) ∧ (rqn 8 (br (!(y311.2)) (rqn 4 (∃ y312 : Int, (due_next_R a0 a1 a2 a3 a4 a5 a6 a7 a8 a9 a10 a17 y312) ∧ (req true (([], y312) = y)))) (rqn 6 (br (decide ((wI (a17 - (y311.1))) > a17)) (rqn 3 (∃ y313 : Int, (due_next_R a0 a1 a2 a3 a4 a5 a6 a7 a8 a9 a10 a17 y313) ∧ (req true (([], y313) = y)))) (rqn 4 (∃ y314 : Int, (due_next_R a0 a1 a2 a3 a4 a5 a6 a7 a8 a9 a10 a17 y314) ∧ (req true (([(y311.1)], y314) = y)))))))))) (br ((((offN 0 a9 1) : Nat) : Int) == 2) (rqn 9 (∃ y315 : List Int × Int, (job_Times_R a0 a1 a2 a3 a4 a5 a6 a7 a8 a9 a10 (wI (a12 - 1)) a17 4 y315) ∧ (∀ c316 : Nat, Nat.ble (List.length (y315.1)) c316 = true → (rqn 8 (∃ y317 : Int, (due_next_R a0 a1 a2 a3 a4 a5 a6 a7 a8 a9 a10 a17 y317) ∧ (req (((Nat.beq (List.length (y315.1)) (List.length (y315.1))) && true) && (true && true)) (((y315.1), y317) = y))))))) False))))))) ∧ (rqn 2 (req ((decide (0 ≤ a9)) && (decide (a9 < 3))) (br ((((offN 0 a9 1) : Nat) : Int) == 0) (rqn 7 (∃ y318 : Int × Bool, (job_Latest_R a0 a1 a2 a3 a4 a5 a6 a7 a8 a9 a10 a17 y318) ∧ (rqn 8 (br (!(y318.2)) (rqn 4 (∃ y319 : Int, (due_next_R a0 a1 a2 a3 a4 a5 a6 a7 a8 a9 a10 a17 y319) ∧ (req true (([], y319) = y)))) (rqn 6 (br (decide ((wI (a17 - (y318.1))) > 59)) (rqn 3 (∃ y320 : Int, (due_next_R a0 a1 a2 a3 a4 a5 a6 a7 a8 a9 a10 a17 y320) ∧ (req true (([], y320) = y)))) (rqn 4 (∃ y321 : Int, (due_next_R a0 a1 a2 a3 a4 a5 a6 a7 a8 a9 a10 a17 y321) ∧ (req true (([(y318.1)], y321) = y)))))))))) (br ((((offN 0 a9 1) : Nat) : Int) == 1) (rqn 8 (∃ y322 : Int × Bool, (job_Latest_R a0 a1 a2 a3 a4 a5 a6 a7 a8 a9 a10 a17 y322) ∧ (rqn 8 (br (!(y322.2)) (rqn 4 (∃ y323 : Int, (due_next_R a0 a1 a2 a3 a4 a5 a6 a7 a8 a9 a10 a17 y323) ∧ (req true (([], y323) = y)))) (rqn 6 (br (decide ((wI (a17 - (y322.1))) > a17)) (rqn 3 (∃ y324 : Int, (due_next_R a0 a1 a2 a3 a4 a5 a6 a7 a8 a9 a10 a17 y324) ∧ (req true (([], y324) = y)))) (rqn 4 (∃ y325 : Int, (due_next_R a0 a1 a2 a3 a4 a5 a6 a7 a8 a9 a10 a17 y325) ∧ (req true (([(y322.1)], y325) = y)))))))))) (br ((((offN 0 a9 1) : Nat) : Int) == 2) (rqn 9 (∃ y326 : List Int × Int, (job_Times_R a0 a1 a2 a3 a4 a5 a6 a7 a8 a9 a10 (wI (a12 - 1)) a17 4 y326) ∧ (∀ c327 : Nat, Nat.ble (List.length (y326.1)) c327 = true → (rqn 8 (∃ y328 : Int, (due_next_R a0 a1 a2 a3 a4 a5 a6 a7 a8 a9 a10 a17 y328) ∧ (req (((Nat.beq (List.length (y326.1)) (List.length (y326.1))) && true) && (true && true)) (((y326.1), y328) = y))))))) False))))))))))))))))))))) := by kernel_rfl
theorem q30_run (a0 : Int) (a1 : Bool) (a2 : Int) (a3 : Int) (a4 : Int) (a5 : Int) (a6 : Int) (a7 : Int) (a8 : Int) (a9 : Int) (a10 : Int) (a11 : Bool) (a12 : Int) (a13 : Int) (a14 : Int) (a15 : Int) (a16 : List Int) (a17 : Int) (y : List Int × Int) (h : due_Occur_R a0 a1 a2 a3 a4 a5 a6 a7 a8 a9 a10 a11 a12 a13 a14 a15 a16 a17 y) : acall q30_cx okT lpT 60 (.fn 30 [] []) [(V.agg [(V.int .u32 a0), (V.bool a1), (V.int .u64 a2), (V.int .u64 a3), (V.int .u64 a4), (V.int .u64 a5), (V.int .u64 a6), (V.int .i64 a7), (V.int .i64 a8), (V.int .i64 a9), (V.int .i64 a10), (V.bool a11), (V.int .i64 a12), (V.int .u64 a13), (V.int .i64 a14), (V.int .i64 a15), (V.sl (.int .i64) a16 none)]), (V.int .i64 a17)] [] (leafK (.tup (.cons (.sl (.int .i64)) (.one (.int .i64)))) y) := by
  refine cast (q30_tree a0 a1 a2 a3 a4 a5 a6 a7 a8 a9 a10 a11 a12 a13 a14 a15 a16 a17 y).symm ?_
  unfold due_Occur_R at h
  refine rqn_intro 4 ?_
  refine ex_both h fun y1 h => ?_
  refine rqn_intro 2 ?_
  refine br_both h (fun hb h => ?_) (fun hb h => ?_)
  · refine rqn_intro 3 ?_
    exact req_intro rfl h
  · refine rqn_intro 2 ?_
    refine ex_both h fun y2 h => ?_
    refine rqn_intro 2 ?_
    refine br_both h (fun hb h => ?_) (fun hb h => ?_)
    · refine rqn_intro 2 ?_
      exact req_intro rfl h
    · refine rqn_intro 4 ?_
      refine br_both h (fun hb h => ?_) (fun hb h => ?_)
      · refine rqn_intro 6 ?_
        exact req_intro rfl h
      · refine rqn_intro 5 ?_
        refine br_both h (fun hb h => ?_) (fun hb h => ?_)
        · refine rqn_intro 5 ?_
          exact req_intro rfl h
        · refine rqn_intro 5 ?_
          refine ⟨?_, ?_, ?_⟩
          · refine req_intro rfl ?_
            refine ⟨?_, ?_, ?_⟩
            · obtain ⟨q, h⟩ := req_of h
              refine req_intro (band (band_l q) (band_r q)) ?_
              refine ⟨?_, ?_, ?_⟩
              · refine br_both h (fun hb h => ?_) (fun hb h => ?_)
                · refine ⟨?_, ?_, ?_⟩
                  · refine rqn_intro 7 ?_
                    refine ex_both h fun y3 h => ?_
                    refine rqn_intro 8 ?_
                    refine br_both h (fun hb h => ?_) (fun hb h => ?_)
                    · refine rqn_intro 3 ?_
                      refine an_intro 1 ?_
                      refine rqn_intro 3 ?_
                      refine ex_both h fun y4 h => ?_
                      exact req_intro rfl h
                    · refine rqn_intro 6 ?_
                      refine br_both h (fun hb h => ?_) (fun hb h => ?_)
                      · refine rqn_intro 2 ?_
                        refine an_intro 1 ?_
                        refine rqn_intro 3 ?_
                        refine ex_both h fun y6 h => ?_
                        exact req_intro rfl h
                      · refine rqn_intro 3 ?_
                        refine an_intro 1 ?_
                        refine rqn_intro 3 ?_
                        refine ex_both h fun y8 h => ?_
                        exact req_intro rfl h
                  · refine req_intro rfl ?_
                    refine ⟨?_, ?_⟩
                    · refine rqn_intro 7 ?_
                      refine ex_both h fun y10 h => ?_
                      refine rqn_intro 8 ?_
                      refine br_both h (fun hb h => ?_) (fun hb h => ?_)
                      · refine rqn_intro 5 ?_
                        refine ex_both h fun y11 h => ?_
                        exact req_intro rfl h
                      · refine rqn_intro 6 ?_
                        refine br_both h (fun hb h => ?_) (fun hb h => ?_)
                        · refine rqn_intro 4 ?_
                          refine ex_both h fun y12 h => ?_
                          exact req_intro rfl h
                        · refine rqn_intro 5 ?_
                          refine ex_both h fun y13 h => ?_
                          exact req_intro rfl h
                    · refine rqn_intro 8 ?_
                      refine ex_both h fun y14 h => ?_
                      refine rqn_intro 8 ?_
                      refine br_both h (fun hb h => ?_) (fun hb h => ?_)
                      · refine rqn_intro 4 ?_
                        refine ex_both h fun y15 h => ?_
                        exact req_intro rfl h
                      · refine rqn_intro 6 ?_
                        refine br_both h (fun hb h => ?_) (fun hb h => ?_)
                        · refine rqn_intro 3 ?_
                          refine ex_both h fun y16 h => ?_
                          exact req_intro rfl h
                        · refine rqn_intro 4 ?_
                          refine ex_both h fun y17 h => ?_
                          exact req_intro rfl h
                  · refine req_intro rfl ?_
                    refine ⟨?_, ?_⟩
                    · refine rqn_intro 7 ?_
                      refine ex_both h fun y18 h => ?_
                      refine rqn_intro 8 ?_
                      refine br_both h (fun hb h => ?_) (fun hb h => ?_)
                      · refine rqn_intro 5 ?_
                        refine ex_both h fun y19 h => ?_
                        exact req_intro rfl h
                      · refine rqn_intro 6 ?_
                        refine br_both h (fun hb h => ?_) (fun hb h => ?_)
                        · refine rqn_intro 4 ?_
                          refine ex_both h fun y20 h => ?_
                          exact req_intro rfl h
                        · refine rqn_intro 5 ?_
                          refine ex_both h fun y21 h => ?_
                          exact req_intro rfl h
                    · refine rqn_intro 8 ?_
                      refine ex_both h fun y22 h => ?_
                      refine rqn_intro 8 ?_
                      refine br_both h (fun hb h => ?_) (fun hb h => ?_)
                      · refine rqn_intro 4 ?_
                        refine ex_both h fun y23 h => ?_
                        exact req_intro rfl h
                      · refine rqn_intro 6 ?_
                        refine br_both h (fun hb h => ?_) (fun hb h => ?_)
                        · refine rqn_intro 3 ?_
                          refine ex_both h fun y24 h => ?_
                          exact req_intro rfl h
                        · refine rqn_intro 4 ?_
                          refine ex_both h fun y25 h => ?_
                          exact req_intro rfl h
                · refine br_both h (fun hb h => ?_) (fun hb h => ?_)
                  · refine ⟨?_, ?_, ?_⟩
                    · refine rqn_intro 8 ?_
                      refine ex_both h fun y26 h => ?_
                      refine rqn_intro 8 ?_
                      refine br_both h (fun hb h => ?_) (fun hb h => ?_)
                      · refine rqn_intro 3 ?_
                        refine an_intro 1 ?_
                        refine rqn_intro 3 ?_
                        refine ex_both h fun y27 h => ?_
                        exact req_intro rfl h
                      · refine rqn_intro 6 ?_
                        refine br_both h (fun hb h => ?_) (fun hb h => ?_)
                        · refine rqn_intro 2 ?_
                          refine an_intro 1 ?_
                          refine rqn_intro 3 ?_
                          refine ex_both h fun y29 h => ?_
                          exact req_intro rfl h
                        · refine rqn_intro 3 ?_
                          refine an_intro 1 ?_
                          refine rqn_intro 3 ?_
                          refine ex_both h fun y31 h => ?_
                          exact req_intro rfl h
                    · refine req_intro rfl ?_
                      refine ⟨?_, ?_⟩
                      · refine rqn_intro 8 ?_
                        refine ex_both h fun y33 h => ?_
                        refine rqn_intro 8 ?_
                        refine br_both h (fun hb h => ?_) (fun hb h => ?_)
                        · refine rqn_intro 5 ?_
                          refine ex_both h fun y34 h => ?_
                          exact req_intro rfl h
                        · refine rqn_intro 6 ?_
                          refine br_both h (fun hb h => ?_) (fun hb h => ?_)
                          · refine rqn_intro 4 ?_
                            refine ex_both h fun y35 h => ?_
                            exact req_intro rfl h
                          · refine rqn_intro 5 ?_
                            refine ex_both h fun y36 h => ?_
                            exact req_intro rfl h
                      · refine rqn_intro 9 ?_
                        refine ex_both h fun y37 h => ?_
                        refine rqn_intro 8 ?_
                        refine br_both h (fun hb h => ?_) (fun hb h => ?_)
                        · refine rqn_intro 4 ?_
                          refine ex_both h fun y38 h => ?_
                          exact req_intro rfl h
                        · refine rqn_intro 6 ?_
                          refine br_both h (fun hb h => ?_) (fun hb h => ?_)
                          · refine rqn_intro 3 ?_
                            refine ex_both h fun y39 h => ?_
                            exact req_intro rfl h
                          · refine rqn_intro 4 ?_
                            refine ex_both h fun y40 h => ?_
                            exact req_intro rfl h
                    · refine req_intro rfl ?_
                      refine ⟨?_, ?_⟩
                      · refine rqn_intro 8 ?_
                        refine ex_both h fun y41 h => ?_
                        refine rqn_intro 8 ?_
                        refine br_both h (fun hb h => ?_) (fun hb h => ?_)
                        · refine rqn_intro 5 ?_
                          refine ex_both h fun y42 h => ?_
                          exact req_intro rfl h
                        · refine rqn_intro 6 ?_
                          refine br_both h (fun hb h => ?_) (fun hb h => ?_)
                          · refine rqn_intro 4 ?_
                            refine ex_both h fun y43 h => ?_
                            exact req_intro rfl h
                          · refine rqn_intro 5 ?_
                            refine ex_both h fun y44 h => ?_
                            exact req_intro rfl h
                      · refine rqn_intro 9 ?_
                        refine ex_both h fun y45 h => ?_
                        refine rqn_intro 8 ?_
                        refine br_both h (fun hb h => ?_) (fun hb h => ?_)
                        · refine rqn_intro 4 ?_
                          refine ex_both h fun y46 h => ?_
                          exact req_intro rfl h
                        · refine rqn_intro 6 ?_
                          refine br_both h (fun hb h => ?_) (fun hb h => ?_)
                          · refine rqn_intro 3 ?_
                            refine ex_both h fun y47 h => ?_
                            exact req_intro rfl h
                          · refine rqn_intro 4 ?_
                            refine ex_both h fun y48 h => ?_
                            exact req_intro rfl h
                  · refine br_both h (fun hb h => ?_) (fun hb h => ?_)
                    · refine ⟨?_, ?_, ?_⟩
                      · refine rqn_intro 9 ?_
                        refine ex_both h fun y49 h => ?_
                        intro c50 hc50
                        refine rqn_intro 7 ?_
                        refine an_intro 1 ?_
                        refine rqn_intro 3 ?_
                        refine ex_both h fun y51 h => ?_
                        exact req_intro (band (band (Nat.beq_refl _) rfl) (band rfl rfl)) h
                      · refine req_intro rfl ?_
                        refine ⟨?_, ?_⟩
                        · refine rqn_intro 9 ?_
                          refine ex_both h fun y53 h => ?_
                          intro c54 hc54
                          refine rqn_intro 9 ?_
                          refine ex_both h fun y55 h => ?_
                          exact req_intro (band (band (Nat.beq_refl _) rfl) (band rfl rfl)) h
                        · refine rqn_intro 10 ?_
                          refine ex_both h fun y56 h => ?_
                          intro c57 hc57
                          refine rqn_intro 8 ?_
                          refine ex_both h fun y58 h => ?_
                          exact req_intro (band (band (Nat.beq_refl _) rfl) (band rfl rfl)) h
                      · refine req_intro rfl ?_
                        refine ⟨?_, ?_⟩
                        · refine rqn_intro 9 ?_
                          refine ex_both h fun y59 h => ?_
                          intro c60 hc60
                          refine rqn_intro 9 ?_
                          refine ex_both h fun y61 h => ?_
                          exact req_intro (band (band (Nat.beq_refl _) rfl) (band rfl rfl)) h
                        · refine rqn_intro 10 ?_
                          refine ex_both h fun y62 h => ?_
                          intro c63 hc63
                          refine rqn_intro 8 ?_
                          refine ex_both h fun y64 h => ?_
                          exact req_intro (band (band (Nat.beq_refl _) rfl) (band rfl rfl)) h
                    · exact h.elim
              · refine req_intro rfl ?_
                refine ⟨?_, ?_⟩
                · refine br_both h (fun hb h => ?_) (fun hb h => ?_)
                  · refine ⟨?_, ?_⟩
                    · refine rqn_intro 7 ?_
                      refine ex_both h fun y65 h => ?_
                      refine rqn_intro 8 ?_
                      refine br_both h (fun hb h => ?_) (fun hb h => ?_)
                      · refine rqn_intro 5 ?_
                        refine ex_both h fun y66 h => ?_
                        exact req_intro rfl h
                      · refine rqn_intro 6 ?_
                        refine br_both h (fun hb h => ?_) (fun hb h => ?_)
                        · refine rqn_intro 4 ?_
                          refine ex_both h fun y67 h => ?_
                          exact req_intro rfl h
                        · refine rqn_intro 5 ?_
                          refine ex_both h fun y68 h => ?_
                          exact req_intro rfl h
                    · refine rqn_intro 8 ?_
                      refine ex_both h fun y69 h => ?_
                      refine rqn_intro 8 ?_
                      refine br_both h (fun hb h => ?_) (fun hb h => ?_)
                      · refine rqn_intro 4 ?_
                        refine ex_both h fun y70 h => ?_
                        exact req_intro rfl h
                      · refine rqn_intro 6 ?_
                        refine br_both h (fun hb h => ?_) (fun hb h => ?_)
                        · refine rqn_intro 3 ?_
                          refine ex_both h fun y71 h => ?_
                          exact req_intro rfl h
                        · refine rqn_intro 4 ?_
                          refine ex_both h fun y72 h => ?_
                          exact req_intro rfl h
                  · refine br_both h (fun hb h => ?_) (fun hb h => ?_)
                    · refine ⟨?_, ?_⟩
                      · refine rqn_intro 8 ?_
                        refine ex_both h fun y73 h => ?_
                        refine rqn_intro 8 ?_
                        refine br_both h (fun hb h => ?_) (fun hb h => ?_)
                        · refine rqn_intro 5 ?_
                          refine ex_both h fun y74 h => ?_
                          exact req_intro rfl h
                        · refine rqn_intro 6 ?_
                          refine br_both h (fun hb h => ?_) (fun hb h => ?_)
                          · refine rqn_intro 4 ?_
                            refine ex_both h fun y75 h => ?_
                            exact req_intro rfl h
                          · refine rqn_intro 5 ?_
                            refine ex_both h fun y76 h => ?_
                            exact req_intro rfl h
                      · refine rqn_intro 9 ?_
                        refine ex_both h fun y77 h => ?_
                        refine rqn_intro 8 ?_
                        refine br_both h (fun hb h => ?_) (fun hb h => ?_)
                        · refine rqn_intro 4 ?_
                          refine ex_both h fun y78 h => ?_
                          exact req_intro rfl h
                        · refine rqn_intro 6 ?_
                          refine br_both h (fun hb h => ?_) (fun hb h => ?_)
                          · refine rqn_intro 3 ?_
                            refine ex_both h fun y79 h => ?_
                            exact req_intro rfl h
                          · refine rqn_intro 4 ?_
                            refine ex_both h fun y80 h => ?_
                            exact req_intro rfl h
                    · refine br_both h (fun hb h => ?_) (fun hb h => ?_)
                      · refine ⟨?_, ?_⟩
                        · refine rqn_intro 9 ?_
                          refine ex_both h fun y81 h => ?_
                          intro c82 hc82
                          refine rqn_intro 9 ?_
                          refine ex_both h fun y83 h => ?_
                          exact req_intro (band (band (Nat.beq_refl _) rfl) (band rfl rfl)) h
                        · refine rqn_intro 10 ?_
                          refine ex_both h fun y84 h => ?_
                          intro c85 hc85
                          refine rqn_intro 8 ?_
                          refine ex_both h fun y86 h => ?_
                          exact req_intro (band (band (Nat.beq_refl _) rfl) (band rfl rfl)) h
                      · exact h.elim
                · refine req_intro rfl ?_
                  refine br_both h (fun hb h => ?_) (fun hb h => ?_)
                  · refine rqn_intro 7 ?_
                    refine ex_both h fun y87 h => ?_
                    refine rqn_intro 8 ?_
                    refine br_both h (fun hb h => ?_) (fun hb h => ?_)
                    · refine rqn_intro 4 ?_
                      refine ex_both h fun y88 h => ?_
                      exact req_intro rfl h
                    · refine rqn_intro 6 ?_
                      refine br_both h (fun hb h => ?_) (fun hb h => ?_)
                      · refine rqn_intro 3 ?_
                        refine ex_both h fun y89 h => ?_
                        exact req_intro rfl h
                      · refine rqn_intro 4 ?_
                        refine ex_both h fun y90 h => ?_
                        exact req_intro rfl h
                  · refine br_both h (fun hb h => ?_) (fun hb h => ?_)
                    · refine rqn_intro 8 ?_
                      refine ex_both h fun y91 h => ?_
                      refine rqn_intro 8 ?_
                      refine br_both h (fun hb h => ?_) (fun hb h => ?_)
                      · refine rqn_intro 4 ?_
                        refine ex_both h fun y92 h => ?_
                        exact req_intro rfl h
                      · refine rqn_intro 6 ?_
                        refine br_both h (fun hb h => ?_) (fun hb h => ?_)
                        · refine rqn_intro 3 ?_
                          refine ex_both h fun y93 h => ?_
                          exact req_intro rfl h
                        · refine rqn_intro 4 ?_
                          refine ex_both h fun y94 h => ?_
                          exact req_intro rfl h
                    · refine br_both h (fun hb h => ?_) (fun hb h => ?_)
                      · refine rqn_intro 9 ?_
                        refine ex_both h fun y95 h => ?_
                        intro c96 hc96
                        refine rqn_intro 8 ?_
                        refine ex_both h fun y97 h => ?_
                        exact req_intro (band (band (Nat.beq_refl _) rfl) (band rfl rfl)) h
                      · exact h.elim
              · refine req_intro rfl ?_
                refine ⟨?_, ?_⟩
                · refine br_both h (fun hb h => ?_) (fun hb h => ?_)
                  · refine ⟨?_, ?_⟩
                    · refine rqn_intro 7 ?_
                      refine ex_both h fun y98 h => ?_
                      refine rqn_intro 8 ?_
                      refine br_both h (fun hb h => ?_) (fun hb h => ?_)
                      · refine rqn_intro 5 ?_
                        refine ex_both h fun y99 h => ?_
                        exact req_intro rfl h
                      · refine rqn_intro 6 ?_
                        refine br_both h (fun hb h => ?_) (fun hb h => ?_)
                        · refine rqn_intro 4 ?_
                          refine ex_both h fun y100 h => ?_
                          exact req_intro rfl h
                        · refine rqn_intro 5 ?_
                          refine ex_both h fun y101 h => ?_
                          exact req_intro rfl h
                    · refine rqn_intro 8 ?_
                      refine ex_both h fun y102 h => ?_
                      refine rqn_intro 8 ?_
                      refine br_both h (fun hb h => ?_) (fun hb h => ?_)
                      · refine rqn_intro 4 ?_
                        refine ex_both h fun y103 h => ?_
                        exact req_intro rfl h
                      · refine rqn_intro 6 ?_
                        refine br_both h (fun hb h => ?_) (fun hb h => ?_)
                        · refine rqn_intro 3 ?_
                          refine ex_both h fun y104 h => ?_
                          exact req_intro rfl h
                        · refine rqn_intro 4 ?_
                          refine ex_both h fun y105 h => ?_
                          exact req_intro rfl h
                  · refine br_both h (fun hb h => ?_) (fun hb h => ?_)
                    · refine ⟨?_, ?_⟩
                      · refine rqn_intro 8 ?_
                        refine ex_both h fun y106 h => ?_
                        refine rqn_intro 8 ?_
                        refine br_both h (fun hb h => ?_) (fun hb h => ?_)
                        · refine rqn_intro 5 ?_
                          refine ex_both h fun y107 h => ?_
                          exact req_intro rfl h
                        · refine rqn_intro 6 ?_
                          refine br_both h (fun hb h => ?_) (fun hb h => ?_)
                          · refine rqn_intro 4 ?_
                            refine ex_both h fun y108 h => ?_
                            exact req_intro rfl h
                          · refine rqn_intro 5 ?_
                            refine ex_both h fun y109 h => ?_
                            exact req_intro rfl h
                      · refine rqn_intro 9 ?_
                        refine ex_both h fun y110 h => ?_
                        refine rqn_intro 8 ?_
                        refine br_both h (fun hb h => ?_) (fun hb h => ?_)
                        · refine rqn_intro 4 ?_
                          refine ex_both h fun y111 h => ?_
                          exact req_intro rfl h
                        · refine rqn_intro 6 ?_
                          refine br_both h (fun hb h => ?_) (fun hb h => ?_)
                          · refine rqn_intro 3 ?_
                            refine ex_both h fun y112 h => ?_
                            exact req_intro rfl h
                          · refine rqn_intro 4 ?_
                            refine ex_both h fun y113 h => ?_
                            exact req_intro rfl h
                    · refine br_both h (fun hb h => ?_) (fun hb h => ?_)
                      · refine ⟨?_, ?_⟩
                        · refine rqn_intro 9 ?_
                          refine ex_both h fun y114 h => ?_
                          intro c115 hc115
                          refine rqn_intro 9 ?_
                          refine ex_both h fun y116 h => ?_
                          exact req_intro (band (band (Nat.beq_refl _) rfl) (band rfl rfl)) h
                        · refine rqn_intro 10 ?_
                          refine ex_both h fun y117 h => ?_
                          intro c118 hc118
                          refine rqn_intro 8 ?_
                          refine ex_both h fun y119 h => ?_
                          exact req_intro (band (band (Nat.beq_refl _) rfl) (band rfl rfl)) h
                      · exact h.elim
                · refine req_intro rfl ?_
                  refine br_both h (fun hb h => ?_) (fun hb h => ?_)
                  · refine rqn_intro 7 ?_
                    refine ex_both h fun y120 h => ?_
                    refine rqn_intro 8 ?_
                    refine br_both h (fun hb h => ?_) (fun hb h => ?_)
                    · refine rqn_intro 4 ?_
                      refine ex_both h fun y121 h => ?_
                      exact req_intro rfl h
                    · refine rqn_intro 6 ?_
                      refine br_both h (fun hb h => ?_) (fun hb h => ?_)
                      · refine rqn_intro 3 ?_
                        refine ex_both h fun y122 h => ?_
                        exact req_intro rfl h
                      · refine rqn_intro 4 ?_
                        refine ex_both h fun y123 h => ?_
                        exact req_intro rfl h
                  · refine br_both h (fun hb h => ?_) (fun hb h => ?_)
                    · refine rqn_intro 8 ?_
                      refine ex_both h fun y124 h => ?_
                      refine rqn_intro 8 ?_
                      refine br_both h (fun hb h => ?_) (fun hb h => ?_)
                      · refine rqn_intro 4 ?_
                        refine ex_both h fun y125 h => ?_
                        exact req_intro rfl h
                      · refine rqn_intro 6 ?_
                        refine br_both h (fun hb h => ?_) (fun hb h => ?_)
                        · refine rqn_intro 3 ?_
                          refine ex_both h fun y126 h => ?_
                          exact req_intro rfl h
                        · refine rqn_intro 4 ?_
                          refine ex_both h fun y127 h => ?_
                          exact req_intro rfl h
                    · refine br_both h (fun hb h => ?_) (fun hb h => ?_)
                      · refine rqn_intro 9 ?_
                        refine ex_both h fun y128 h => ?_
                        intro c129 hc129
                        refine rqn_intro 8 ?_
                        refine ex_both h fun y130 h => ?_
                        exact req_intro (band (band (Nat.beq_refl _) rfl) (band rfl rfl)) h
                      · exact h.elim
            · refine req_intro rfl ?_
              refine ⟨?_, ?_⟩
              · obtain ⟨q, h⟩ := req_of h
                refine req_intro (band (band_l q) (band_r q)) ?_
                refine ⟨?_, ?_⟩
                · refine br_both h (fun hb h => ?_) (fun hb h => ?_)
                  · refine ⟨?_, ?_⟩
                    · refine rqn_intro 7 ?_
                      refine ex_both h fun y131 h => ?_
                      refine rqn_intro 8 ?_
                      refine br_both h (fun hb h => ?_) (fun hb h => ?_)
                      · refine rqn_intro 5 ?_
                        refine ex_both h fun y132 h => ?_
                        exact req_intro rfl h
                      · refine rqn_intro 6 ?_
                        refine br_both h (fun hb h => ?_) (fun hb h => ?_)
                        · refine rqn_intro 4 ?_
                          refine ex_both h fun y133 h => ?_
                          exact req_intro rfl h
                        · refine rqn_intro 5 ?_
                          refine ex_both h fun y134 h => ?_
                          exact req_intro rfl h
                    · refine rqn_intro 8 ?_
                      refine ex_both h fun y135 h => ?_
                      refine rqn_intro 8 ?_
                      refine br_both h (fun hb h => ?_) (fun hb h => ?_)
                      · refine rqn_intro 4 ?_
                        refine ex_both h fun y136 h => ?_
                        exact req_intro rfl h
                      · refine rqn_intro 6 ?_
                        refine br_both h (fun hb h => ?_) (fun hb h => ?_)
                        · refine rqn_intro 3 ?_
                          refine ex_both h fun y137 h => ?_
                          exact req_intro rfl h
                        · refine rqn_intro 4 ?_
                          refine ex_both h fun y138 h => ?_
                          exact req_intro rfl h
                  · refine br_both h (fun hb h => ?_) (fun hb h => ?_)
                    · refine ⟨?_, ?_⟩
                      · refine rqn_intro 8 ?_
                        refine ex_both h fun y139 h => ?_
                        refine rqn_intro 8 ?_
                        refine br_both h (fun hb h => ?_) (fun hb h => ?_)
                        · refine rqn_intro 5 ?_
                          refine ex_both h fun y140 h => ?_
                          exact req_intro rfl h
                        · refine rqn_intro 6 ?_
                          refine br_both h (fun hb h => ?_) (fun hb h => ?_)
                          · refine rqn_intro 4 ?_
                            refine ex_both h fun y141 h => ?_
                            exact req_intro rfl h
                          · refine rqn_intro 5 ?_
                            refine ex_both h fun y142 h => ?_
                            exact req_intro rfl h
                      · refine rqn_intro 9 ?_
                        refine ex_both h fun y143 h => ?_
                        refine rqn_intro 8 ?_
                        refine br_both h (fun hb h => ?_) (fun hb h => ?_)
                        · refine rqn_intro 4 ?_
                          refine ex_both h fun y144 h => ?_
                          exact req_intro rfl h
                        · refine rqn_intro 6 ?_
                          refine br_both h (fun hb h => ?_) (fun hb h => ?_)
                          · refine rqn_intro 3 ?_
                            refine ex_both h fun y145 h => ?_
                            exact req_intro rfl h
                          · refine rqn_intro 4 ?_
                            refine ex_both h fun y146 h => ?_
                            exact req_intro rfl h
                    · refine br_both h (fun hb h => ?_) (fun hb h => ?_)
                      · refine ⟨?_, ?_⟩
                        · refine rqn_intro 9 ?_
                          refine ex_both h fun y147 h => ?_
                          intro c148 hc148
                          refine rqn_intro 9 ?_
                          refine ex_both h fun y149 h => ?_
                          exact req_intro (band (band (Nat.beq_refl _) rfl) (band rfl rfl)) h
                        · refine rqn_intro 10 ?_
                          refine ex_both h fun y150 h => ?_
                          intro c151 hc151
                          refine rqn_intro 8 ?_
                          refine ex_both h fun y152 h => ?_
                          exact req_intro (band (band (Nat.beq_refl _) rfl) (band rfl rfl)) h
                      · exact h.elim
                · refine req_intro rfl ?_
                  refine br_both h (fun hb h => ?_) (fun hb h => ?_)
                  · refine rqn_intro 7 ?_
                    refine ex_both h fun y153 h => ?_
                    refine rqn_intro 8 ?_
                    refine br_both h (fun hb h => ?_) (fun hb h => ?_)
                    · refine rqn_intro 4 ?_
                      refine ex_both h fun y154 h => ?_
                      exact req_intro rfl h
                    · refine rqn_intro 6 ?_
                      refine br_both h (fun hb h => ?_) (fun hb h => ?_)
                      · refine rqn_intro 3 ?_
                        refine ex_both h fun y155 h => ?_
                        exact req_intro rfl h
                      · refine rqn_intro 4 ?_
                        refine ex_both h fun y156 h => ?_
                        exact req_intro rfl h
                  · refine br_both h (fun hb h => ?_) (fun hb h => ?_)
                    · refine rqn_intro 8 ?_
                      refine ex_both h fun y157 h => ?_
                      refine rqn_intro 8 ?_
                      refine br_both h (fun hb h => ?_) (fun hb h => ?_)
                      · refine rqn_intro 4 ?_
                        refine ex_both h fun y158 h => ?_
                        exact req_intro rfl h
                      · refine rqn_intro 6 ?_
                        refine br_both h (fun hb h => ?_) (fun hb h => ?_)
                        · refine rqn_intro 3 ?_
                          refine ex_both h fun y159 h => ?_
                          exact req_intro rfl h
                        · refine rqn_intro 4 ?_
                          refine ex_both h fun y160 h => ?_
                          exact req_intro rfl h
                    · refine br_both h (fun hb h => ?_) (fun hb h => ?_)
                      · refine rqn_intro 9 ?_
                        refine ex_both h fun y161 h => ?_
                        intro c162 hc162
                        refine rqn_intro 8 ?_
                        refine ex_both h fun y163 h => ?_
                        exact req_intro (band (band (Nat.beq_refl _) rfl) (band rfl rfl)) h
                      · exact h.elim
              · refine req_intro rfl ?_
                obtain ⟨q, h⟩ := req_of h
                refine req_intro (band (band_l q) (band_r q)) ?_
                refine br_both h (fun hb h => ?_) (fun hb h => ?_)
                · refine rqn_intro 7 ?_
                  refine ex_both h fun y164 h => ?_
                  refine rqn_intro 8 ?_
                  refine br_both h (fun hb h => ?_) (fun hb h => ?_)
                  · refine rqn_intro 4 ?_
                    refine ex_both h fun y165 h => ?_
                    exact req_intro rfl h
                  · refine rqn_intro 6 ?_
                    refine br_both h (fun hb h => ?_) (fun hb h => ?_)
                    · refine rqn_intro 3 ?_
                      refine ex_both h fun y166 h => ?_
                      exact req_intro rfl h
                    · refine rqn_intro 4 ?_
                      refine ex_both h fun y167 h => ?_
                      exact req_intro rfl h
                · refine br_both h (fun hb h => ?_) (fun hb h => ?_)
                  · refine rqn_intro 8 ?_
                    refine ex_both h fun y168 h => ?_
                    refine rqn_intro 8 ?_
                    refine br_both h (fun hb h => ?_) (fun hb h => ?_)
                    · refine rqn_intro 4 ?_
                      refine ex_both h fun y169 h => ?_
                      exact req_intro rfl h
                    · refine rqn_intro 6 ?_
                      refine br_both h (fun hb h => ?_) (fun hb h => ?_)
                      · refine rqn_intro 3 ?_
                        refine ex_both h fun y170 h => ?_
                        exact req_intro rfl h
                      · refine rqn_intro 4 ?_
                        refine ex_both h fun y171 h => ?_
                        exact req_intro rfl h
                  · refine br_both h (fun hb h => ?_) (fun hb h => ?_)
                    · refine rqn_intro 9 ?_
                      refine ex_both h fun y172 h => ?_
                      intro c173 hc173
                      refine rqn_intro 8 ?_
                      refine ex_both h fun y174 h => ?_
                      exact req_intro (band (band (Nat.beq_refl _) rfl) (band rfl rfl)) h
                    · exact h.elim
            · refine req_intro rfl ?_
              refine ⟨?_, ?_⟩
              · obtain ⟨q, h⟩ := req_of h
                refine req_intro (band (band_l q) (band_r q)) ?_
                refine ⟨?_, ?_⟩
                · refine br_both h (fun hb h => ?_) (fun hb h => ?_)
                  · refine ⟨?_, ?_⟩
                    · refine rqn_intro 7 ?_
                      refine ex_both h fun y175 h => ?_
                      refine rqn_intro 8 ?_
                      refine br_both h (fun hb h => ?_) (fun hb h => ?_)
                      · refine rqn_intro 5 ?_
                        refine ex_both h fun y176 h => ?_
                        exact req_intro rfl h
                      · refine rqn_intro 6 ?_
                        refine br_both h (fun hb h => ?_) (fun hb h => ?_)
                        · refine rqn_intro 4 ?_
                          refine ex_both h fun y177 h => ?_
                          exact req_intro rfl h
                        · refine rqn_intro 5 ?_
                          refine ex_both h fun y178 h => ?_
                          exact req_intro rfl h
                    · refine rqn_intro 8 ?_
                      refine ex_both h fun y179 h => ?_
                      refine rqn_intro 8 ?_
                      refine br_both h (fun hb h => ?_) (fun hb h => ?_)
                      · refine rqn_intro 4 ?_
                        refine ex_both h fun y180 h => ?_
                        exact req_intro rfl h
                      · refine rqn_intro 6 ?_
                        refine br_both h (fun hb h => ?_) (fun hb h => ?_)
                        · refine rqn_intro 3 ?_
                          refine ex_both h fun y181 h => ?_
                          exact req_intro rfl h
                        · refine rqn_intro 4 ?_
                          refine ex_both h fun y182 h => ?_
                          exact req_intro rfl h
                  · refine br_both h (fun hb h => ?_) (fun hb h => ?_)
                    · refine ⟨?_, ?_⟩
                      · refine rqn_intro 8 ?_
                        refine ex_both h fun y183 h => ?_
                        refine rqn_intro 8 ?_
                        refine br_both h (fun hb h => ?_) (fun hb h => ?_)
                        · refine rqn_intro 5 ?_
                          refine ex_both h fun y184 h => ?_
                          exact req_intro rfl h
                        · refine rqn_intro 6 ?_
                          refine br_both h (fun hb h => ?_) (fun hb h => ?_)
                          · refine rqn_intro 4 ?_
                            refine ex_both h fun y185 h => ?_
                            exact req_intro rfl h
                          · refine rqn_intro 5 ?_
                            refine ex_both h fun y186 h => ?_
                            exact req_intro rfl h
                      · refine rqn_intro 9 ?_
                        refine ex_both h fun y187 h => ?_
                        refine rqn_intro 8 ?_
                        refine br_both h (fun hb h => ?_) (fun hb h => ?_)
                        · refine rqn_intro 4 ?_
                          refine ex_both h fun y188 h => ?_
                          exact req_intro rfl h
                        · refine rqn_intro 6 ?_
                          refine br_both h (fun hb h => ?_) (fun hb h => ?_)
                          · refine rqn_intro 3 ?_
                            refine ex_both h fun y189 h => ?_
                            exact req_intro rfl h
                          · refine rqn_intro 4 ?_
                            refine ex_both h fun y190 h => ?_
                            exact req_intro rfl h
                    · refine br_both h (fun hb h => ?_) (fun hb h => ?_)
                      · refine ⟨?_, ?_⟩
                        · refine rqn_intro 9 ?_
                          refine ex_both h fun y191 h => ?_
                          intro c192 hc192
                          refine rqn_intro 9 ?_
                          refine ex_both h fun y193 h => ?_
                          exact req_intro (band (band (Nat.beq_refl _) rfl) (band rfl rfl)) h
                        · refine rqn_intro 10 ?_
                          refine ex_both h fun y194 h => ?_
                          intro c195 hc195
                          refine rqn_intro 8 ?_
                          refine ex_both h fun y196 h => ?_
                          exact req_intro (band (band (Nat.beq_refl _) rfl) (band rfl rfl)) h
                      · exact h.elim
                · refine req_intro rfl ?_
                  refine br_both h (fun hb h => ?_) (fun hb h => ?_)
                  · refine rqn_intro 7 ?_
                    refine ex_both h fun y197 h => ?_
                    refine rqn_intro 8 ?_
                    refine br_both h (fun hb h => ?_) (fun hb h => ?_)
                    · refine rqn_intro 4 ?_
                      refine ex_both h fun y198 h => ?_
                      exact req_intro rfl h
                    · refine rqn_intro 6 ?_
                      refine br_both h (fun hb h => ?_) (fun hb h => ?_)
                      · refine rqn_intro 3 ?_
                        refine ex_both h fun y199 h => ?_
                        exact req_intro rfl h
                      · refine rqn_intro 4 ?_
                        refine ex_both h fun y200 h => ?_
                        exact req_intro rfl h
                  · refine br_both h (fun hb h => ?_) (fun hb h => ?_)
                    · refine rqn_intro 8 ?_
                      refine ex_both h fun y201 h => ?_
                      refine rqn_intro 8 ?_
                      refine br_both h (fun hb h => ?_) (fun hb h => ?_)
                      · refine rqn_intro 4 ?_
                        refine ex_both h fun y202 h => ?_
                        exact req_intro rfl h
                      · refine rqn_intro 6 ?_
                        refine br_both h (fun hb h => ?_) (fun hb h => ?_)
                        · refine rqn_intro 3 ?_
                          refine ex_both h fun y203 h => ?_
                          exact req_intro rfl h
                        · refine rqn_intro 4 ?_
                          refine ex_both h fun y204 h => ?_
                          exact req_intro rfl h
                    · refine br_both h (fun hb h => ?_) (fun hb h => ?_)
                      · refine rqn_intro 9 ?_
                        refine ex_both h fun y205 h => ?_
                        intro c206 hc206
                        refine rqn_intro 8 ?_
                        refine ex_both h fun y207 h => ?_
                        exact req_intro (band (band (Nat.beq_refl _) rfl) (band rfl rfl)) h
                      · exact h.elim
              · refine req_intro rfl ?_
                obtain ⟨q, h⟩ := req_of h
                refine req_intro (band (band_l q) (band_r q)) ?_
                refine br_both h (fun hb h => ?_) (fun hb h => ?_)
                · refine rqn_intro 7 ?_
                  refine ex_both h fun y208 h => ?_
                  refine rqn_intro 8 ?_
                  refine br_both h (fun hb h => ?_) (fun hb h => ?_)
                  · refine rqn_intro 4 ?_
                    refine ex_both h fun y209 h => ?_
                    exact req_intro rfl h
                  · refine rqn_intro 6 ?_
                    refine br_both h (fun hb h => ?_) (fun hb h => ?_)
                    · refine rqn_intro 3 ?_
                      refine ex_both h fun y210 h => ?_
                      exact req_intro rfl h
                    · refine rqn_intro 4 ?_
                      refine ex_both h fun y211 h => ?_
                      exact req_intro rfl h
                · refine br_both h (fun hb h => ?_) (fun hb h => ?_)
                  · refine rqn_intro 8 ?_
                    refine ex_both h fun y212 h => ?_
                    refine rqn_intro 8 ?_
                    refine br_both h (fun hb h => ?_) (fun hb h => ?_)
                    · refine rqn_intro 4 ?_
                      refine ex_both h fun y213 h => ?_
                      exact req_intro rfl h
                    · refine rqn_intro 6 ?_
                      refine br_both h (fun hb h => ?_) (fun hb h => ?_)
                      · refine rqn_intro 3 ?_
                        refine ex_both h fun y214 h => ?_
                        exact req_intro rfl h
                      · refine rqn_intro 4 ?_
                        refine ex_both h fun y215 h => ?_
                        exact req_intro rfl h
                  · refine br_both h (fun hb h => ?_) (fun hb h => ?_)
                    · refine rqn_intro 9 ?_
                      refine ex_both h fun y216 h => ?_
                      intro c217 hc217
                      refine rqn_intro 8 ?_
                      refine ex_both h fun y218 h => ?_
                      exact req_intro (band (band (Nat.beq_refl _) rfl) (band rfl rfl)) h
                    · exact h.elim
          · refine req_intro rfl ?_
            refine ⟨?_, ?_⟩
            · refine req_intro rfl ?_
              refine ⟨?_, ?_⟩
              · obtain ⟨q, h⟩ := req_of h
                refine req_intro (band (band_l q) (band_r q)) ?_
                refine ⟨?_, ?_⟩
                · refine br_both h (fun hb h => ?_) (fun hb h => ?_)
                  · refine ⟨?_, ?_⟩
                    · refine rqn_intro 7 ?_
                      refine ex_both h fun y219 h => ?_
                      refine rqn_intro 8 ?_
                      refine br_both h (fun hb h => ?_) (fun hb h => ?_)
                      · refine rqn_intro 5 ?_
                        refine ex_both h fun y220 h => ?_
                        exact req_intro rfl h
                      · refine rqn_intro 6 ?_
                        refine br_both h (fun hb h => ?_) (fun hb h => ?_)
                        · refine rqn_intro 4 ?_
                          refine ex_both h fun y221 h => ?_
                          exact req_intro rfl h
                        · refine rqn_intro 5 ?_
                          refine ex_both h fun y222 h => ?_
                          exact req_intro rfl h
                    · refine rqn_intro 8 ?_
                      refine ex_both h fun y223 h => ?_
                      refine rqn_intro 8 ?_
                      refine br_both h (fun hb h => ?_) (fun hb h => ?_)
                      · refine rqn_intro 4 ?_
                        refine ex_both h fun y224 h => ?_
                        exact req_intro rfl h
                      · refine rqn_intro 6 ?_
                        refine br_both h (fun hb h => ?_) (fun hb h => ?_)
                        · refine rqn_intro 3 ?_
                          refine ex_both h fun y225 h => ?_
                          exact req_intro rfl h
                        · refine rqn_intro 4 ?_
                          refine ex_both h fun y226 h => ?_
                          exact req_intro rfl h
                  · refine br_both h (fun hb h => ?_) (fun hb h => ?_)
                    · refine ⟨?_, ?_⟩
                      · refine rqn_intro 8 ?_
                        refine ex_both h fun y227 h => ?_
                        refine rqn_intro 8 ?_
                        refine br_both h (fun hb h => ?_) (fun hb h => ?_)
                        · refine rqn_intro 5 ?_
                          refine ex_both h fun y228 h => ?_
                          exact req_intro rfl h
                        · refine rqn_intro 6 ?_
                          refine br_both h (fun hb h => ?_) (fun hb h => ?_)
                          · refine rqn_intro 4 ?_
                            refine ex_both h fun y229 h => ?_
                            exact req_intro rfl h
                          · refine rqn_intro 5 ?_
                            refine ex_both h fun y230 h => ?_
                            exact req_intro rfl h
                      · refine rqn_intro 9 ?_
                        refine ex_both h fun y231 h => ?_
                        refine rqn_intro 8 ?_
                        refine br_both h (fun hb h => ?_) (fun hb h => ?_)
                        · refine rqn_intro 4 ?_
                          refine ex_both h fun y232 h => ?_
                          exact req_intro rfl h
                        · refine rqn_intro 6 ?_
                          refine br_both h (fun hb h => ?_) (fun hb h => ?_)
                          · refine rqn_intro 3 ?_
                            refine ex_both h fun y233 h => ?_
                            exact req_intro rfl h
                          · refine rqn_intro 4 ?_
                            refine ex_both h fun y234 h => ?_
                            exact req_intro rfl h
                    · refine br_both h (fun hb h => ?_) (fun hb h => ?_)
                      · refine ⟨?_, ?_⟩
                        · refine rqn_intro 9 ?_
                          refine ex_both h fun y235 h => ?_
                          intro c236 hc236
                          refine rqn_intro 9 ?_
                          refine ex_both h fun y237 h => ?_
                          exact req_intro (band (band (Nat.beq_refl _) rfl) (band rfl rfl)) h
                        · refine rqn_intro 10 ?_
                          refine ex_both h fun y238 h => ?_
                          intro c239 hc239
                          refine rqn_intro 8 ?_
                          refine ex_both h fun y240 h => ?_
                          exact req_intro (band (band (Nat.beq_refl _) rfl) (band rfl rfl)) h
                      · exact h.elim
                · refine req_intro rfl ?_
                  refine br_both h (fun hb h => ?_) (fun hb h => ?_)
                  · refine rqn_intro 7 ?_
                    refine ex_both h fun y241 h => ?_
                    refine rqn_intro 8 ?_
                    refine br_both h (fun hb h => ?_) (fun hb h => ?_)
                    · refine rqn_intro 4 ?_
                      refine ex_both h fun y242 h => ?_
                      exact req_intro rfl h
                    · refine rqn_intro 6 ?_
                      refine br_both h (fun hb h => ?_) (fun hb h => ?_)
                      · refine rqn_intro 3 ?_
                        refine ex_both h fun y243 h => ?_
                        exact req_intro rfl h
                      · refine rqn_intro 4 ?_
                        refine ex_both h fun y244 h => ?_
                        exact req_intro rfl h
                  · refine br_both h (fun hb h => ?_) (fun hb h => ?_)
                    · refine rqn_intro 8 ?_
                      refine ex_both h fun y245 h => ?_
                      refine rqn_intro 8 ?_
                      refine br_both h (fun hb h => ?_) (fun hb h => ?_)
                      · refine rqn_intro 4 ?_
                        refine ex_both h fun y246 h => ?_
                        exact req_intro rfl h
                      · refine rqn_intro 6 ?_
                        refine br_both h (fun hb h => ?_) (fun hb h => ?_)
                        · refine rqn_intro 3 ?_
                          refine ex_both h fun y247 h => ?_
                          exact req_intro rfl h
                        · refine rqn_intro 4 ?_
                          refine ex_both h fun y248 h => ?_
                          exact req_intro rfl h
                    · refine br_both h (fun hb h => ?_) (fun hb h => ?_)
                      · refine rqn_intro 9 ?_
                        refine ex_both h fun y249 h => ?_
                        intro c250 hc250
                        refine rqn_intro 8 ?_
                        refine ex_both h fun y251 h => ?_
                        exact req_intro (band (band (Nat.beq_refl _) rfl) (band rfl rfl)) h
                      · exact h.elim
              · refine req_intro rfl ?_
                obtain ⟨q, h⟩ := req_of h
                refine req_intro (band (band_l q) (band_r q)) ?_
                refine br_both h (fun hb h => ?_) (fun hb h => ?_)
                · refine rqn_intro 7 ?_
                  refine ex_both h fun y252 h => ?_
                  refine rqn_intro 8 ?_
                  refine br_both h (fun hb h => ?_) (fun hb h => ?_)
                  · refine rqn_intro 4 ?_
                    refine ex_both h fun y253 h => ?_
                    exact req_intro rfl h
                  · refine rqn_intro 6 ?_
                    refine br_both h (fun hb h => ?_) (fun hb h => ?_)
                    · refine rqn_intro 3 ?_
                      refine ex_both h fun y254 h => ?_
                      exact req_intro rfl h
                    · refine rqn_intro 4 ?_
                      refine ex_both h fun y255 h => ?_
                      exact req_intro rfl h
                · refine br_both h (fun hb h => ?_) (fun hb h => ?_)
                  · refine rqn_intro 8 ?_
                    refine ex_both h fun y256 h => ?_
                    refine rqn_intro 8 ?_
                    refine br_both h (fun hb h => ?_) (fun hb h => ?_)
                    · refine rqn_intro 4 ?_
                      refine ex_both h fun y257 h => ?_
                      exact req_intro rfl h
                    · refine rqn_intro 6 ?_
                      refine br_both h (fun hb h => ?_) (fun hb h => ?_)
                      · refine rqn_intro 3 ?_
                        refine ex_both h fun y258 h => ?_
                        exact req_intro rfl h
                      · refine rqn_intro 4 ?_
                        refine ex_both h fun y259 h => ?_
                        exact req_intro rfl h
                  · refine br_both h (fun hb h => ?_) (fun hb h => ?_)
                    · refine rqn_intro 9 ?_
                      refine ex_both h fun y260 h => ?_
                      intro c261 hc261
                      refine rqn_intro 8 ?_
                      refine ex_both h fun y262 h => ?_
                      exact req_intro (band (band (Nat.beq_refl _) rfl) (band rfl rfl)) h
                    · exact h.elim
            · refine rqn_intro 2 ?_
              obtain ⟨q, h⟩ := req_of h
              refine req_intro (band (band_l q) (band_r q)) ?_
              refine br_both h (fun hb h => ?_) (fun hb h => ?_)
              · refine rqn_intro 7 ?_
                refine ex_both h fun y263 h => ?_
                refine rqn_intro 8 ?_
                refine br_both h (fun hb h => ?_) (fun hb h => ?_)
                · refine rqn_intro 4 ?_
                  refine ex_both h fun y264 h => ?_
                  exact req_intro rfl h
                · refine rqn_intro 6 ?_
                  refine br_both h (fun hb h => ?_) (fun hb h => ?_)
                  · refine rqn_intro 3 ?_
                    refine ex_both h fun y265 h => ?_
                    exact req_intro rfl h
                  · refine rqn_intro 4 ?_
                    refine ex_both h fun y266 h => ?_
                    exact req_intro rfl h
              · refine br_both h (fun hb h => ?_) (fun hb h => ?_)
                · refine rqn_intro 8 ?_
                  refine ex_both h fun y267 h => ?_
                  refine rqn_intro 8 ?_
                  refine br_both h (fun hb h => ?_) (fun hb h => ?_)
                  · refine rqn_intro 4 ?_
                    refine ex_both h fun y268 h => ?_
                    exact req_intro rfl h
                  · refine rqn_intro 6 ?_
                    refine br_both h (fun hb h => ?_) (fun hb h => ?_)
                    · refine rqn_intro 3 ?_
                      refine ex_both h fun y269 h => ?_
                      exact req_intro rfl h
                    · refine rqn_intro 4 ?_
                      refine ex_both h fun y270 h => ?_
                      exact req_intro rfl h
                · refine br_both h (fun hb h => ?_) (fun hb h => ?_)
                  · refine rqn_intro 9 ?_
                    refine ex_both h fun y271 h => ?_
                    intro c272 hc272
                    refine rqn_intro 8 ?_
                    refine ex_both h fun y273 h => ?_
                    exact req_intro (band (band (Nat.beq_refl _) rfl) (band rfl rfl)) h
                  · exact h.elim
          · refine req_intro rfl ?_
            refine ⟨?_, ?_⟩
            · refine req_intro rfl ?_
              refine ⟨?_, ?_⟩
              · obtain ⟨q, h⟩ := req_of h
                refine req_intro (band (band_l q) (band_r q)) ?_
                refine ⟨?_, ?_⟩
                · refine br_both h (fun hb h => ?_) (fun hb h => ?_)
                  · refine ⟨?_, ?_⟩
                    · refine rqn_intro 7 ?_
                      refine ex_both h fun y274 h => ?_
                      refine rqn_intro 8 ?_
                      refine br_both h (fun hb h => ?_) (fun hb h => ?_)
                      · refine rqn_intro 5 ?_
                        refine ex_both h fun y275 h => ?_
                        exact req_intro rfl h
                      · refine rqn_intro 6 ?_
                        refine br_both h (fun hb h => ?_) (fun hb h => ?_)
                        · refine rqn_intro 4 ?_
                          refine ex_both h fun y276 h => ?_
                          exact req_intro rfl h
                        · refine rqn_intro 5 ?_
                          refine ex_both h fun y277 h => ?_
                          exact req_intro rfl h
                    · refine rqn_intro 8 ?_
                      refine ex_both h fun y278 h => ?_
                      refine rqn_intro 8 ?_
                      refine br_both h (fun hb h => ?_) (fun hb h => ?_)
                      · refine rqn_intro 4 ?_
                        refine ex_both h fun y279 h => ?_
                        exact req_intro rfl h
                      · refine rqn_intro 6 ?_
                        refine br_both h (fun hb h => ?_) (fun hb h => ?_)
                        · refine rqn_intro 3 ?_
                          refine ex_both h fun y280 h => ?_
                          exact req_intro rfl h
                        · refine rqn_intro 4 ?_
                          refine ex_both h fun y281 h => ?_
                          exact req_intro rfl h
                  · refine br_both h (fun hb h => ?_) (fun hb h => ?_)
                    · refine ⟨?_, ?_⟩
                      · refine rqn_intro 8 ?_
                        refine ex_both h fun y282 h => ?_
                        refine rqn_intro 8 ?_
                        refine br_both h (fun hb h => ?_) (fun hb h => ?_)
                        · refine rqn_intro 5 ?_
                          refine ex_both h fun y283 h => ?_
                          exact req_intro rfl h
                        · refine rqn_intro 6 ?_
                          refine br_both h (fun hb h => ?_) (fun hb h => ?_)
                          · refine rqn_intro 4 ?_
                            refine ex_both h fun y284 h => ?_
                            exact req_intro rfl h
                          · refine rqn_intro 5 ?_
                            refine ex_both h fun y285 h => ?_
                            exact req_intro rfl h
                      · refine rqn_intro 9 ?_
                        refine ex_both h fun y286 h => ?_
                        refine rqn_intro 8 ?_
                        refine br_both h (fun hb h => ?_) (fun hb h => ?_)
                        · refine rqn_intro 4 ?_
                          refine ex_both h fun y287 h => ?_
                          exact req_intro rfl h
                        · refine rqn_intro 6 ?_
                          refine br_both h (fun hb h => ?_) (fun hb h => ?_)
                          · refine rqn_intro 3 ?_
                            refine ex_both h fun y288 h => ?_
                            exact req_intro rfl h
                          · refine rqn_intro 4 ?_
                            refine ex_both h fun y289 h => ?_
                            exact req_intro rfl h
                    · refine br_both h (fun hb h => ?_) (fun hb h => ?_)
                      · refine ⟨?_, ?_⟩
                        · refine rqn_intro 9 ?_
                          refine ex_both h fun y290 h => ?_
                          intro c291 hc291
                          refine rqn_intro 9 ?_
                          refine ex_both h fun y292 h => ?_
                          exact req_intro (band (band (Nat.beq_refl _) rfl) (band rfl rfl)) h
                        · refine rqn_intro 10 ?_
                          refine ex_both h fun y293 h => ?_
                          intro c294 hc294
                          refine rqn_intro 8 ?_
                          refine ex_both h fun y295 h => ?_
                          exact req_intro (band (band (Nat.beq_refl _) rfl) (band rfl rfl)) h
                      · exact h.elim
                · refine req_intro rfl ?_
                  refine br_both h (fun hb h => ?_) (fun hb h => ?_)
                  · refine rqn_intro 7 ?_
                    refine ex_both h fun y296 h => ?_
                    refine rqn_intro 8 ?_
                    refine br_both h (fun hb h => ?_) (fun hb h => ?_)
                    · refine rqn_intro 4 ?_
                      refine ex_both h fun y297 h => ?_
                      exact req_intro rfl h
                    · refine rqn_intro 6 ?_
                      refine br_both h (fun hb h => ?_) (fun hb h => ?_)
                      · refine rqn_intro 3 ?_
                        refine ex_both h fun y298 h => ?_
                        exact req_intro rfl h
                      · refine rqn_intro 4 ?_
                        refine ex_both h fun y299 h => ?_
                        exact req_intro rfl h
                  · refine br_both h (fun hb h => ?_) (fun hb h => ?_)
                    · refine rqn_intro 8 ?_
                      refine ex_both h fun y300 h => ?_
                      refine rqn_intro 8 ?_
                      refine br_both h (fun hb h => ?_) (fun hb h => ?_)
                      · refine rqn_intro 4 ?_
                        refine ex_both h fun y301 h => ?_
                        exact req_intro rfl h
                      · refine rqn_intro 6 ?_
                        refine br_both h (fun hb h => ?_) (fun hb h => ?_)
                        · refine rqn_intro 3 ?_
                          refine ex_both h fun y302 h => ?_
                          exact req_intro rfl h
                        · refine rqn_intro 4 ?_
                          refine ex_both h fun y303 h => ?_
                          exact req_intro rfl h
                    · refine br_both h (fun hb h => ?_) (fun hb h => ?_)
                      · refine rqn_intro 9 ?_
                        refine ex_both h fun y304 h => ?_
                        intro c305 hc305
                        refine rqn_intro 8 ?_
                        refine ex_both h fun y306 h => ?_
                        exact req_intro (band (band (Nat.beq_refl _) rfl) (band rfl rfl)) h
                      · exact h.elim
              · refine req_intro rfl ?_
                obtain ⟨q, h⟩ := req_of h
                refine req_intro (band (band_l q) (band_r q)) ?_
                refine br_both h (fun hb h => ?_) (fun hb h => ?_)
                · refine rqn_intro 7 ?_
                  refine ex_both h fun y307 h => ?_
                  refine rqn_intro 8 ?_
                  refine br_both h (fun hb h => ?_) (fun hb h => ?_)
                  · refine rqn_intro 4 ?_
                    refine ex_both h fun y308 h => ?_
                    exact req_intro rfl h
                  · refine rqn_intro 6 ?_
                    refine br_both h (fun hb h => ?_) (fun hb h => ?_)
                    · refine rqn_intro 3 ?_
                      refine ex_both h fun y309 h => ?_
                      exact req_intro rfl h
                    · refine rqn_intro 4 ?_
                      refine ex_both h fun y310 h => ?_
                      exact req_intro rfl h
                · refine br_both h (fun hb h => ?_) (fun hb h => ?_)
                  · refine rqn_intro 8 ?_
                    refine ex_both h fun y311 h => ?_
                    refine rqn_intro 8 ?_
                    refine br_both h (fun hb h => ?_) (fun hb h => ?_)
                    · refine rqn_intro 4 ?_
                      refine ex_both h fun y312 h => ?_
                      exact req_intro rfl h
                    · refine rqn_intro 6 ?_
                      refine br_both h (fun hb h => ?_) (fun hb h => ?_)
                      · refine rqn_intro 3 ?_
                        refine ex_both h fun y313 h => ?_
                        exact req_intro rfl h
                      · refine rqn_intro 4 ?_
                        refine ex_both h fun y314 h => ?_
                        exact req_intro rfl h
                  · refine br_both h (fun hb h => ?_) (fun hb h => ?_)
                    · refine rqn_intro 9 ?_
                      refine ex_both h fun y315 h => ?_
                      intro c316 hc316
                      refine rqn_intro 8 ?_
                      refine ex_both h fun y317 h => ?_
                      exact req_intro (band (band (Nat.beq_refl _) rfl) (band rfl rfl)) h
                    · exact h.elim
            · refine rqn_intro 2 ?_
              obtain ⟨q, h⟩ := req_of h
              refine req_intro (band (band_l q) (band_r q)) ?_
              refine br_both h (fun hb h => ?_) (fun hb h => ?_)
              · refine rqn_intro 7 ?_
                refine ex_both h fun y318 h => ?_
                refine rqn_intro 8 ?_
                refine br_both h (fun hb h => ?_) (fun hb h => ?_)
                · refine rqn_intro 4 ?_
                  refine ex_both h fun y319 h => ?_
                  exact req_intro rfl h
                · refine rqn_intro 6 ?_
                  refine br_both h (fun hb h => ?_) (fun hb h => ?_)
                  · refine rqn_intro 3 ?_
                    refine ex_both h fun y320 h => ?_
                    exact req_intro rfl h
                  · refine rqn_intro 4 ?_
                    refine ex_both h fun y321 h => ?_
                    exact req_intro rfl h
              · refine br_both h (fun hb h => ?_) (fun hb h => ?_)
                · refine rqn_intro 8 ?_
                  refine ex_both h fun y322 h => ?_
                  refine rqn_intro 8 ?_
                  refine br_both h (fun hb h => ?_) (fun hb h => ?_)
                  · refine rqn_intro 4 ?_
                    refine ex_both h fun y323 h => ?_
                    exact req_intro rfl h
                  · refine rqn_intro 6 ?_
                    refine br_both h (fun hb h => ?_) (fun hb h => ?_)
                    · refine rqn_intro 3 ?_
                      refine ex_both h fun y324 h => ?_
                      exact req_intro rfl h
                    · refine rqn_intro 4 ?_
                      refine ex_both h fun y325 h => ?_
                      exact req_intro rfl h
                · refine br_both h (fun hb h => ?_) (fun hb h => ?_)
                  · refine rqn_intro 9 ?_
                    refine ex_both h fun y326 h => ?_
                    intro c327 hc327
                    refine rqn_intro 8 ?_
                    refine ex_both h fun y328 h => ?_
                    exact req_intro (band (band (Nat.beq_refl _) rfl) (band rfl rfl)) h
                  · exact h.elim
theorem due_Occur_ok : FxOk Tryd.prog gsT 30 (.cons (.agg (.cons (.int .u32) (.cons .bool (.cons (.int .u64) (.cons (.int .u64) (.cons (.int .u64) (.cons (.int .u64) (.cons (.int .u64) (.cons (.int .i64) (.cons (.int .i64) (.cons (.int .i64) (.cons (.int .i64) (.cons .bool (.cons (.int .i64) (.cons (.int .u64) (.cons (.int .i64) (.cons (.int .i64) (.one (.sl (.int .i64)))))))))))))))))))) (.one (.int .i64))) (.tup (.cons (.sl (.int .i64)) (.one (.int .i64)))) fun x y => due_Occur_R (x.1.1) (x.1.2.1) (x.1.2.2.1) (x.1.2.2.2.1) (x.1.2.2.2.2.1) (x.1.2.2.2.2.2.1) (x.1.2.2.2.2.2.2.1) (x.1.2.2.2.2.2.2.2.1) (x.1.2.2.2.2.2.2.2.2.1) (x.1.2.2.2.2.2.2.2.2.2.1) (x.1.2.2.2.2.2.2.2.2.2.2.1) (x.1.2.2.2.2.2.2.2.2.2.2.2.1) (x.1.2.2.2.2.2.2.2.2.2.2.2.2.1) (x.1.2.2.2.2.2.2.2.2.2.2.2.2.2.1) (x.1.2.2.2.2.2.2.2.2.2.2.2.2.2.2.1) (x.1.2.2.2.2.2.2.2.2.2.2.2.2.2.2.2.1) (x.1.2.2.2.2.2.2.2.2.2.2.2.2.2.2.2.2) (x.2) y := fx_of (c := q30_cx) (ty_ok rfl) (eq_ok rfl) q30_fns follows_ok (ok := okT) (lp := lpT) (n := 60) lp_ok (enters Tryd.func30 (by kernel_rfl) rfl) (fun y => ⟨_, rfl⟩) fun x y h => q30_run _ _ _ _ _ _ _ _ _ _ _ _ _ _ _ _ _ _ y h
noncomputable def q55_cx : Cx := ⟨tyT, [(55, .body Tryd.f55)], gsT, eqT⟩
theorem q55_fns : FnsOk Tryd.prog q55_cx := Fns_assoc ⟨body_ent Tryd.func55 (by kernel_rfl) (by kernel_rfl), trivial⟩
def slices_Clone__int64_int64_R (a0 : List Int) (y : List Int) : Prop :=
  ((Nat.beq (List.length a0) 0 = true → ([] = y)) ∧ (req (Nat.ble ((List.length a0) * 9) 140737488355328) (a0 = y)))
theorem q55_tree (a0 : List Int) (y : List Int) : acall q55_cx okT lpT 60 (.fn 55 [] []) [(V.sl (.int .i64) a0 none)] [] (leafK (.nw (.int .i64) 2) y) =
    (rqn 2 ((Nat.beq (List.length a0) 0 = true → (req true (req true ([] = y)))) ∧ (req true (req ((true && true) && (Nat.ble ((List.length a0) * 9) 140737488355328)) (∀ c1 : Nat, Nat.ble (List.length a0) c1 = true → (req true (req (true && ((Nat.beq (List.length a0) (List.length a0)) && (Nat.beq c1 c1))) (a0 = y)))))))) := by kernel_rfl
theorem q55_run (a0 : List Int) (y : List Int) (h : slices_Clone__int64_int64_R a0 y) : acall q55_cx okT lpT 60 (.fn 55 [] []) [(V.sl (.int .i64) a0 none)] [] (leafK (.nw (.int .i64) 2) y) := by
  refine cast (q55_tree a0 y).symm ?_
  unfold slices_Clone__int64_int64_R at h
  refine rqn_intro 2 ?_
  refine ⟨fun hn => ?_, ?_⟩
  · replace h := h.1 hn
    refine req_intro rfl ?_
    exact req_intro rfl h
  · replace h := h.2
    refine req_intro rfl ?_
    obtain ⟨q, h⟩ := req_of h
    refine req_intro (band (band rfl rfl) q) ?_
    intro c1 hc1
    refine req_intro rfl ?_
    exact req_intro (band rfl (band (Nat.beq_refl _) (Nat.beq_refl _))) h
theorem slices_Clone__int64_int64_ok : FxOk Tryd.prog gsT 55 (.one (.sl (.int .i64))) (.nw (.int .i64) 2) fun x y => slices_Clone__int64_int64_R x y := fx_of (c := q55_cx) (ty_ok rfl) (eq_ok rfl) q55_fns follows_ok (ok := okT) (lp := lpT) (n := 60) lp_ok (enters Tryd.func55 (by kernel_rfl) rfl) (fun y => ⟨_, rfl⟩) fun x y h => q55_run _ y h
noncomputable def q28_cx : Cx := ⟨tyT, [(27, .fx (.one (.agg (.cons (.int .u32) (.cons .bool (.cons (.int .u64) (.cons (.int .u64) (.cons (.int .u64) (.cons (.int .u64) (.cons (.int .u64) (.cons (.int .i64) (.cons (.int .i64) (.cons (.int .i64) (.cons (.int .i64) (.cons .bool (.cons (.int .i64) (.cons (.int .u64) (.cons (.int .i64) (.cons (.int .i64) (.one (.sl (.int .i64))))))))))))))))))))) (.int .i64) fun x y => table_CheckRow_R (x.1) (x.2.1) (x.2.2.1) (x.2.2.2.1) (x.2.2.2.2.1) (x.2.2.2.2.2.1) (x.2.2.2.2.2.2.1) (x.2.2.2.2.2.2.2.1) (x.2.2.2.2.2.2.2.2.1) (x.2.2.2.2.2.2.2.2.2.1) (x.2.2.2.2.2.2.2.2.2.2.1) (x.2.2.2.2.2.2.2.2.2.2.2.1) (x.2.2.2.2.2.2.2.2.2.2.2.2.1) (x.2.2.2.2.2.2.2.2.2.2.2.2.2.1) (x.2.2.2.2.2.2.2.2.2.2.2.2.2.2.1) (x.2.2.2.2.2.2.2.2.2.2.2.2.2.2.2.1) (x.2.2.2.2.2.2.2.2.2.2.2.2.2.2.2.2) y),
  (28, .body Tryd.f28),
  (30, .fx (.cons (.agg (.cons (.int .u32) (.cons .bool (.cons (.int .u64) (.cons (.int .u64) (.cons (.int .u64) (.cons (.int .u64) (.cons (.int .u64) (.cons (.int .i64) (.cons (.int .i64) (.cons (.int .i64) (.cons (.int .i64) (.cons .bool (.cons (.int .i64) (.cons (.int .u64) (.cons (.int .i64) (.cons (.int .i64) (.one (.sl (.int .i64)))))))))))))))))))) (.one (.int .i64))) (.tup (.cons (.sl (.int .i64)) (.one (.int .i64)))) fun x y => due_Occur_R (x.1.1) (x.1.2.1) (x.1.2.2.1) (x.1.2.2.2.1) (x.1.2.2.2.2.1) (x.1.2.2.2.2.2.1) (x.1.2.2.2.2.2.2.1) (x.1.2.2.2.2.2.2.2.1) (x.1.2.2.2.2.2.2.2.2.1) (x.1.2.2.2.2.2.2.2.2.2.1) (x.1.2.2.2.2.2.2.2.2.2.2.1) (x.1.2.2.2.2.2.2.2.2.2.2.2.1) (x.1.2.2.2.2.2.2.2.2.2.2.2.2.1) (x.1.2.2.2.2.2.2.2.2.2.2.2.2.2.1) (x.1.2.2.2.2.2.2.2.2.2.2.2.2.2.2.1) (x.1.2.2.2.2.2.2.2.2.2.2.2.2.2.2.2.1) (x.1.2.2.2.2.2.2.2.2.2.2.2.2.2.2.2.2) (x.2) y),
  (55, .fx (.one (.sl (.int .i64))) (.nw (.int .i64) 2) fun x y => slices_Clone__int64_int64_R x y),
  (58, .fx (.one (.int .i64)) .bool fun x y => times_May_R x y),
  (60, .body Tryd.f60),
  (61, .body Tryd.f61),
  (62, .body Tryd.f62),
  (63, .body Tryd.f63)], gsT, eqT⟩
theorem q28_fns : FnsOk Tryd.prog q28_cx := Fns_assoc ⟨table_CheckRow_ok, body_ent Tryd.func28 (by kernel_rfl) (by kernel_rfl), due_Occur_ok, slices_Clone__int64_int64_ok, times_May_ok, body_ent Tryd.func60 (by kernel_rfl) (by kernel_rfl), body_ent Tryd.func61 (by kernel_rfl) (by kernel_rfl), body_ent Tryd.func62 (by kernel_rfl) (by kernel_rfl), body_ent Tryd.func63 (by kernel_rfl) (by kernel_rfl), trivial⟩
noncomputable def q28_0_body : Code := subC [1, 1, 1, 1, 0, 1, 0, 0] (bodyOf Tryd.f28)
abbrev due_Step_l0_Z : Type := List Int × Int × Bool × Int × Int × Int × Int × Int × Int × Int × Int × Int × Bool × Int × Int × Int × Int × Int × Int × Int × Int × Int × Int × List Int × Int × Int
abbrev due_Step_l0_Y : Type := List Int × Int × Int × Int × Int × Int × Int × Int
abbrev q28_0_C : Type := Nat
abbrev q28_0_Q : Type := Unit
noncomputable def q28_0_st (z6 : due_Step_l0_Z) (z6q : q28_0_Q) (z6c : q28_0_C) : S := ⟨[(2, (vu (z6.2.2.2.2.2.2.2.2.2.2.2.2.2.2.2.2.2.2.2.2.2.1))), (6, (V.ptr 1 0)), (10, (vi (z6.2.2.2.2.2.2.2.2.2.2.2.2.2.2.2.2.2.2.2.2.2.2.1))), (11, (V.ptr 4 0)), (35, (V.sl (.int .i64) (z6.2.2.2.2.2.2.2.2.2.2.2.2.2.2.2.2.2.2.2.2.2.2.2.1) none)), (36, (vi (z6.2.2.2.2.2.2.2.2.2.2.2.2.2.2.2.2.2.2.2.2.2.2.2.2.1))), (37, (vi (z6.2.2.2.2.2.2.2.2.2.2.2.2.2.2.2.2.2.2.2.2.2.2.2.2.2)))], [Blk.dead, (Blk.cells [(V.int .u32 0), (vb false), (vu 0), (vu 0), (vu 0), (vu 0), (vu 0), (vi 0), (vi 0), (vi 0), (vi 0), (vb false), (vi 0), (vu 0), (vi 0), (vi 0), (V.old (.slice none 0 0))]), Blk.dead, Blk.dead, (Blk.cells [(V.int .u32 (z6.2.1)), (vb (z6.2.2.1)), (vu (z6.2.2.2.1)), (vu (z6.2.2.2.2.1)), (vu (z6.2.2.2.2.2.1)), (vu (z6.2.2.2.2.2.2.1)), (vu (z6.2.2.2.2.2.2.2.1)), (vi (z6.2.2.2.2.2.2.2.2.1)), (vi (z6.2.2.2.2.2.2.2.2.2.1)), (vi (z6.2.2.2.2.2.2.2.2.2.2.1)), (vi (z6.2.2.2.2.2.2.2.2.2.2.2.1)), (vb (z6.2.2.2.2.2.2.2.2.2.2.2.2.1)), (vi (z6.2.2.2.2.2.2.2.2.2.2.2.2.2.1)), (vu (z6.2.2.2.2.2.2.2.2.2.2.2.2.2.2.1)), (vi (z6.2.2.2.2.2.2.2.2.2.2.2.2.2.2.2.1)), (vi (z6.2.2.2.2.2.2.2.2.2.2.2.2.2.2.2.2.1)), (V.row 5 1 (List.length (z6.1)) z6c), (vu (z6.2.2.2.2.2.2.2.2.2.2.2.2.2.2.2.2.2.1)), (V.int .u32 (z6.2.2.2.2.2.2.2.2.2.2.2.2.2.2.2.2.2.2.1)), (vi (z6.2.2.2.2.2.2.2.2.2.2.2.2.2.2.2.2.2.2.2.1)), (vi 0), (vi (z6.2.2.2.2.2.2.2.2.2.2.2.2.2.2.2.2.2.2.2.2.1))]), (Blk.row (.int .i64) (z6.1) 2 z6c)], []⟩
def q28_0_Kp (K : Ret → S → Prop) (z6x1 : Int) (z6x2 : Bool) (z6x3 : Int) (z6x4 : Int) (z6x5 : Int) (z6x6 : Int) (z6x7 : Int) (z6x8 : Int) (z6x9 : Int) (z6x10 : Int) (z6x11 : Int) (z6x12 : Bool) (z6x13 : Int) (z6x22 : Int) (z6q : q28_0_Q) (y7 : due_Step_l0_Y) : Prop := (∀ y7c : Nat, K (.exit 0) ⟨[(6, (V.ptr 1 0)), (10, (vi z6x22)), (11, (V.ptr 4 0))], [Blk.dead, (Blk.cells [(V.int .u32 0), (vb false), (vu 0), (vu 0), (vu 0), (vu 0), (vu 0), (vi 0), (vi 0), (vi 0), (vi 0), (vb false), (vi 0), (vu 0), (vi 0), (vi 0), (V.old (.slice none 0 0))]), Blk.dead, Blk.dead, (Blk.cells [(V.int .u32 z6x1), (vb z6x2), (vu z6x3), (vu z6x4), (vu z6x5), (vu z6x6), (vu z6x7), (vi z6x8), (vi z6x9), (vi z6x10), (vi z6x11), (vb z6x12), (vi z6x13), (vu (y7.2.1)), (vi (y7.2.2.1)), (vi (y7.2.2.2.1)), (V.row 5 1 (List.length (y7.1)) y7c), (vu (y7.2.2.2.2.1)), (V.int .u32 (y7.2.2.2.2.2.1)), (vi (y7.2.2.2.2.2.2.1)), (vi 0), (vi (y7.2.2.2.2.2.2.2))]), (Blk.row (.int .i64) (y7.1) 2 y7c)], []⟩)
def q28_0_K (K : Ret → S → Prop) (z6 : due_Step_l0_Z) (z6q : q28_0_Q) (y7 : due_Step_l0_Y) : Prop := q28_0_Kp K (z6.2.1) (z6.2.2.1) (z6.2.2.2.1) (z6.2.2.2.2.1) (z6.2.2.2.2.2.1) (z6.2.2.2.2.2.2.1) (z6.2.2.2.2.2.2.2.1) (z6.2.2.2.2.2.2.2.2.1) (z6.2.2.2.2.2.2.2.2.2.1) (z6.2.2.2.2.2.2.2.2.2.2.1) (z6.2.2.2.2.2.2.2.2.2.2.2.1) (z6.2.2.2.2.2.2.2.2.2.2.2.2.1) (z6.2.2.2.2.2.2.2.2.2.2.2.2.2.1) (z6.2.2.2.2.2.2.2.2.2.2.2.2.2.2.2.2.2.2.2.2.2.2.1) z6q y7
def due_Step_l0 : Nat → due_Step_l0_Z → due_Step_l0_Y → Prop
  | 0, _, _ => False
  | k + 1, (z6x0, z6x1, z6x2, z6x3, z6x4, z6x5, z6x6, z6x7, z6x8, z6x9, z6x10, z6x11, z6x12, z6x13, z6x14, z6x15, z6x16, z6x17, z6x18, z6x19, z6x20, z6x21, z6x22, z6x23, z6x24, z6x25), y7_ => (br (decide (z6x25 < z6x24)) (req ((decide (0 ≤ z6x25)) && (decide (z6x25 < (((List.length z6x23) : Nat) : Int)))) (br ((z6x14 == 0) && ((z6x15 == 0) && ((z6x16 == 0) && true))) (due_Step_l0 k (z6x0, z6x1, z6x2, z6x3, z6x4, z6x5, z6x6, z6x7, z6x8, z6x9, z6x10, z6x11, z6x12, z6x13, z6x21, (List.getD z6x23 (Int.toNat z6x25) 0), 0, z6x21, z6x1, (List.getD z6x23 (Int.toNat z6x25) 0), 1, z6x21, z6x22, z6x23, z6x24, (IntKind.wrap .i64 (z6x25 + 1))) y7_) (br (z6x9 == 1) (br (decide ((((List.length z6x0) : Nat) : Int) < 3)) (req (Nat.ble ((List.length (z6x0 ++ [(List.getD z6x23 (Int.toNat z6x25) 0)])) * 9) 140737488355328) (due_Step_l0 k ((z6x0 ++ [(List.getD z6x23 (Int.toNat z6x25) 0)]), z6x1, z6x2, z6x3, z6x4, z6x5, z6x6, z6x7, z6x8, z6x9, z6x10, z6x11, z6x12, z6x13, z6x14, z6x15, z6x16, z6x17, z6x18, z6x19, z6x20, z6x21, z6x22, z6x23, z6x24, (IntKind.wrap .i64 (z6x25 + 1))) y7_)) (due_Step_l0 k (z6x0, z6x1, z6x2, z6x3, z6x4, z6x5, z6x6, z6x7, z6x8, z6x9, z6x10, z6x11, z6x12, z6x13, z6x14, z6x15, z6x16, z6x17, z6x18, z6x19, z6x20, z6x21, z6x22, z6x23, z6x24, (IntKind.wrap .i64 (z6x25 + 1))) y7_)) (due_Step_l0 k (z6x0, z6x1, z6x2, z6x3, z6x4, z6x5, z6x6, z6x7, z6x8, z6x9, z6x10, z6x11, z6x12, z6x13, z6x14, z6x15, z6x16, z6x17, z6x18, z6x19, z6x20, z6x21, z6x22, z6x23, z6x24, (IntKind.wrap .i64 (z6x25 + 1))) y7_)))) ((z6x0, z6x14, z6x15, z6x16, z6x17, z6x18, z6x19, z6x20) = y7_))
def due_Step_l0_L (z : due_Step_l0_Z) (y : due_Step_l0_Y) : Prop := ∃ k, due_Step_l0 k z y
noncomputable def q28_0_lp : Lp := .auto none q28_0_body (loopG 5 q28_0_st (fun z y => ∃ k, due_Step_l0 k z y) q28_0_K)
noncomputable def q28_lp : Nat → FuncId → Nat → Nat → Lp := lpTab [(28, 6, 5, 2, q28_0_lp)]
theorem q28_0_round (n : Nat) (z6x0 : List Int) (z6x1 : Int) (z6x2 : Bool) (z6x3 : Int) (z6x4 : Int) (z6x5 : Int) (z6x6 : Int) (z6x7 : Int) (z6x8 : Int) (z6x9 : Int) (z6x10 : Int) (z6x11 : Int) (z6x12 : Bool) (z6x13 : Int) (z6x14 : Int) (z6x15 : Int) (z6x16 : Int) (z6x17 : Int) (z6x18 : Int) (z6x19 : Int) (z6x20 : Int) (z6x21 : Int) (z6x22 : Int) (z6x23 : List Int) (z6x24 : Int) (z6x25 : Int) (z6k0 : Nat) (K : Ret → S → Prop) (next : S → Prop) : acode q28_cx 28 (acall q28_cx okT q28_lp (n + 2)) (okT 28) (q28_lp (n + 2) 28) none q28_0_body (iterK (wkK 5 K) next) (q28_0_st (z6x0, z6x1, z6x2, z6x3, z6x4, z6x5, z6x6, z6x7, z6x8, z6x9, z6x10, z6x11, z6x12, z6x13, z6x14, z6x15, z6x16, z6x17, z6x18, z6x19, z6x20, z6x21, z6x22, z6x23, z6x24, z6x25) () z6k0) =
    (req true (br (decide (z6x25 < z6x24)) (req ((decide (0 ≤ z6x25)) && (decide (z6x25 < (((List.length z6x23) : Nat) : Int)))) (rqn 13 (br ((z6x14 == 0) && ((z6x15 == 0) && ((z6x16 == 0) && true))) (rqn 9 (an 3 (req true (an 2 (req true (an 1 (rqn 6 (next ⟨[(2, (vu z6x21)), (6, (V.ptr 1 0)), (10, (vi z6x22)), (11, (V.ptr 4 0)), (35, (V.sl (.int .i64) z6x23 none)), (36, (vi z6x24)), (37, (vi (wI (z6x25 + 1)))), (38, (vb (decide (z6x25 < z6x24)))), (13, (vi (List.getD z6x23 (Int.toNat z6x25) 0)))], [Blk.dead, (Blk.cells [(V.int .u32 0), (vb false), (vu 0), (vu 0), (vu 0), (vu 0), (vu 0), (vi 0), (vi 0), (vi 0), (vi 0), (vb false), (vi 0), (vu 0), (vi 0), (vi 0), (V.old (.slice none 0 0))]), Blk.dead, Blk.dead, (Blk.cells [(V.int .u32 z6x1), (vb z6x2), (vu z6x3), (vu z6x4), (vu z6x5), (vu z6x6), (vu z6x7), (vi z6x8), (vi z6x9), (vi z6x10), (vi z6x11), (vb z6x12), (vi z6x13), (vu z6x21), (vi (List.getD z6x23 (Int.toNat z6x25) 0)), (vi 0), (V.row 5 1 (List.length z6x0) z6k0), (vu z6x21), (V.int .u32 z6x1), (vi (List.getD z6x23 (Int.toNat z6x25) 0)), (vi 0), (vi 1)]), (Blk.row (.int .i64) z6x0 2 z6k0)], []⟩)))))))) (rqn 8 (br (z6x9 == 1) (rqn 9 (br (decide ((((List.length z6x0) : Nat) : Int) < 3)) (rqn 7 (req (((((true && true) && true) && (Nat.beq (List.length z6x0) (List.length z6x0))) && (Nat.beq z6k0 z6k0)) && (Nat.ble ((List.length (z6x0 ++ [(List.getD z6x23 (Int.toNat z6x25) 0)])) * 9) 140737488355328)) (∀ c8 : Nat, Nat.ble (List.length (z6x0 ++ [(List.getD z6x23 (Int.toNat z6x25) 0)])) c8 = true → (rqn 5 (next ⟨[(2, (vu z6x21)), (6, (V.ptr 1 0)), (10, (vi z6x22)), (11, (V.ptr 4 0)), (35, (V.sl (.int .i64) z6x23 none)), (36, (vi z6x24)), (37, (vi (wI (z6x25 + 1)))), (38, (vb (decide (z6x25 < z6x24)))), (13, (vi (List.getD z6x23 (Int.toNat z6x25) 0)))], [Blk.dead, (Blk.cells [(V.int .u32 0), (vb false), (vu 0), (vu 0), (vu 0), (vu 0), (vu 0), (vi 0), (vi 0), (vi 0), (vi 0), (vb false), (vi 0), (vu 0), (vi 0), (vi 0), (V.old (.slice none 0 0))]), Blk.dead, Blk.dead, (Blk.cells [(V.int .u32 z6x1), (vb z6x2), (vu z6x3), (vu z6x4), (vu z6x5), (vu z6x6), (vu z6x7), (vi z6x8), (vi z6x9), (vi z6x10), (vi z6x11), (vb z6x12), (vi z6x13), (vu z6x14), (vi z6x15), (vi z6x16), (V.row 7 1 (List.length (z6x0 ++ [(List.getD z6x23 (Int.toNat z6x25) 0)])) c8), (vu z6x17), (V.int .u32 z6x18), (vi z6x19), (vi 0), (vi z6x20)]), Blk.dead, (Blk.cells [(vi (List.getD z6x23 (Int.toNat z6x25) 0))]), (Blk.row (.int .i64) (z6x0 ++ [(List.getD z6x23 (Int.toNat z6x25) 0)]) 2 c8)], []⟩))))) (rqn 2 (next ⟨[(2, (vu z6x21)), (6, (V.ptr 1 0)), (10, (vi z6x22)), (11, (V.ptr 4 0)), (35, (V.sl (.int .i64) z6x23 none)), (36, (vi z6x24)), (37, (vi (wI (z6x25 + 1)))), (38, (vb (decide (z6x25 < z6x24)))), (13, (vi (List.getD z6x23 (Int.toNat z6x25) 0)))], [Blk.dead, (Blk.cells [(V.int .u32 0), (vb false), (vu 0), (vu 0), (vu 0), (vu 0), (vu 0), (vi 0), (vi 0), (vi 0), (vi 0), (vb false), (vi 0), (vu 0), (vi 0), (vi 0), (V.old (.slice none 0 0))]), Blk.dead, Blk.dead, (Blk.cells [(V.int .u32 z6x1), (vb z6x2), (vu z6x3), (vu z6x4), (vu z6x5), (vu z6x6), (vu z6x7), (vi z6x8), (vi z6x9), (vi z6x10), (vi z6x11), (vb z6x12), (vi z6x13), (vu z6x14), (vi z6x15), (vi z6x16), (V.row 5 1 (List.length z6x0) z6k0), (vu z6x17), (V.int .u32 z6x18), (vi z6x19), (vi 0), (vi z6x20)]), (Blk.row (.int .i64) z6x0 2 z6k0)], []⟩)))) (rqn 4 (next ⟨[(2, (vu z6x21)), (6, (V.ptr 1 0)), (10, (vi z6x22)), (11, (V.ptr 4 0)), (35, (V.sl (.int .i64) z6x23 none)), (36, (vi z6x24)), (37, (vi (wI (z6x25 + 1)))), (38, (vb (decide (z6x25 < z6x24)))), (13, (vi (List.getD z6x23 (Int.toNat z6x25) 0)))], [Blk.dead, (Blk.cells [(V.int .u32 0), (vb false), (vu 0), (vu 0), (vu 0), (vu 0), (vu 0), (vi 0), (vi 0), (vi 0), (vi 0), (vb false), (vi 0), (vu 0), (vi 0), (vi 0), (V.old (.slice none 0 0))]), Blk.dead, Blk.dead, (Blk.cells [(V.int .u32 z6x1), (vb z6x2), (vu z6x3), (vu z6x4), (vu z6x5), (vu z6x6), (vu z6x7), (vi z6x8), (vi z6x9), (vi z6x10), (vi z6x11), (vb z6x12), (vi z6x13), (vu z6x14), (vi z6x15), (vi z6x16), (V.row 5 1 (List.length z6x0) z6k0), (vu z6x17), (V.int .u32 z6x18), (vi z6x19), (vi 0), (vi z6x20)]), (Blk.row (.int .i64) z6x0 2 z6k0)], []⟩))))))) (wkK 5 K (.exit 0) ⟨[(2, (vu z6x21)), (6, (V.ptr 1 0)), (10, (vi z6x22)), (11, (V.ptr 4 0)), (35, (V.sl (.int .i64) z6x23 none)), (36, (vi z6x24)), (37, (vi z6x25)), (38, (vb (decide (z6x25 < z6x24))))], [Blk.dead, (Blk.cells [(V.int .u32 0), (vb false), (vu 0), (vu 0), (vu 0), (vu 0), (vu 0), (vi 0), (vi 0), (vi 0), (vi 0), (vb false), (vi 0), (vu 0), (vi 0), (vi 0), (V.old (.slice none 0 0))]), Blk.dead, Blk.dead, (Blk.cells [(V.int .u32 z6x1), (vb z6x2), (vu z6x3), (vu z6x4), (vu z6x5), (vu z6x6), (vu z6x7), (vi z6x8), (vi z6x9), (vi z6x10), (vi z6x11), (vb z6x12), (vi z6x13), (vu z6x14), (vi z6x15), (vi z6x16), (V.row 5 1 (List.length z6x0) z6k0), (vu z6x17), (V.int .u32 z6x18), (vi z6x19), (vi 0), (vi z6x20)]), (Blk.row (.int .i64) z6x0 2 z6k0)], []⟩))) := by kernel_rfl
theorem q28_0_step (n k : Nat) (z6x0 : List Int) (z6x1 : Int) (z6x2 : Bool) (z6x3 : Int) (z6x4 : Int) (z6x5 : Int) (z6x6 : Int) (z6x7 : Int) (z6x8 : Int) (z6x9 : Int) (z6x10 : Int) (z6x11 : Int) (z6x12 : Bool) (z6x13 : Int) (z6x14 : Int) (z6x15 : Int) (z6x16 : Int) (z6x17 : Int) (z6x18 : Int) (z6x19 : Int) (z6x20 : Int) (z6x21 : Int) (z6x22 : Int) (z6x23 : List Int) (z6x24 : Int) (z6x25 : Int) (z6k0 : Nat) (y7_ : due_Step_l0_Y) (K : Ret → S → Prop) (h : due_Step_l0 (k + 1) (z6x0, z6x1, z6x2, z6x3, z6x4, z6x5, z6x6, z6x7, z6x8, z6x9, z6x10, z6x11, z6x12, z6x13, z6x14, z6x15, z6x16, z6x17, z6x18, z6x19, z6x20, z6x21, z6x22, z6x23, z6x24, z6x25) y7_) (hK : q28_0_Kp K z6x1 z6x2 z6x3 z6x4 z6x5 z6x6 z6x7 z6x8 z6x9 z6x10 z6x11 z6x12 z6x13 z6x22 () y7_) (next : S → Prop) (hnext : ∀ z' s', due_Step_l0 k z' y7_ → q28_0_K K z' () y7_ → (∃ cc', wk 5 s' (q28_0_st z' () cc')) → next s') : acode q28_cx 28 (acall q28_cx okT q28_lp (n + 2)) (okT 28) (q28_lp (n + 2) 28) none q28_0_body (iterK (wkK 5 K) next) (q28_0_st (z6x0, z6x1, z6x2, z6x3, z6x4, z6x5, z6x6, z6x7, z6x8, z6x9, z6x10, z6x11, z6x12, z6x13, z6x14, z6x15, z6x16, z6x17, z6x18, z6x19, z6x20, z6x21, z6x22, z6x23, z6x24, z6x25) () z6k0) := by
  refine cast (q28_0_round n z6x0 z6x1 z6x2 z6x3 z6x4 z6x5 z6x6 z6x7 z6x8 z6x9 z6x10 z6x11 z6x12 z6x13 z6x14 z6x15 z6x16 z6x17 z6x18 z6x19 z6x20 z6x21 z6x22 z6x23 z6x24 z6x25 z6k0 K next).symm ?_
  simp only [due_Step_l0] at h
  refine req_intro rfl ?_
  refine br_both h (fun hb h => ?_) (fun hb h => ?_)
  · obtain ⟨q, h⟩ := req_of h
    refine req_intro (band (band_l q) (band_r q)) ?_
    refine rqn_intro 13 ?_
    refine br_both h (fun hb h => ?_) (fun hb h => ?_)
    · refine rqn_intro 9 ?_
      refine an_intro 3 ?_
      refine req_intro rfl ?_
      refine an_intro 2 ?_
      refine req_intro rfl ?_
      refine an_intro 1 ?_
      refine rqn_intro 6 ?_
      exact hnext (z6x0, z6x1, z6x2, z6x3, z6x4, z6x5, z6x6, z6x7, z6x8, z6x9, z6x10, z6x11, z6x12, z6x13, z6x21, (List.getD z6x23 (Int.toNat z6x25) 0), 0, z6x21, z6x1, (List.getD z6x23 (Int.toNat z6x25) 0), 1, z6x21, z6x22, z6x23, z6x24, (wI (z6x25 + 1))) _ h hK ⟨z6k0, wk_of (Or.inr ⟨⟨Or.inl rfl, Or.inl rfl, Or.inl rfl, Or.inl rfl, Or.inl rfl, Or.inl rfl, Or.inl rfl, trivial⟩, ⟨Or.inl rfl, Or.inl rfl, Or.inl rfl, Or.inl rfl, Or.inl rfl, Or.inl rfl, trivial⟩, rfl, rfl, rfl⟩)⟩
    · refine rqn_intro 8 ?_
      refine br_both h (fun hb h => ?_) (fun hb h => ?_)
      · refine rqn_intro 9 ?_
        refine br_both h (fun hb h => ?_) (fun hb h => ?_)
        · refine rqn_intro 7 ?_
          obtain ⟨q, h⟩ := req_of h
          refine req_intro (band (band (band (band (band rfl rfl) rfl) (Nat.beq_refl _)) (Nat.beq_refl _)) q) ?_
          intro c8 hc8
          refine rqn_intro 5 ?_
          exact hnext ((z6x0 ++ [(List.getD z6x23 (Int.toNat z6x25) 0)]), z6x1, z6x2, z6x3, z6x4, z6x5, z6x6, z6x7, z6x8, z6x9, z6x10, z6x11, z6x12, z6x13, z6x14, z6x15, z6x16, z6x17, z6x18, z6x19, z6x20, z6x21, z6x22, z6x23, z6x24, (wI (z6x25 + 1))) _ h hK ⟨c8, ⟨_, ⟨[(2, (vu z6x21)), (6, (V.ptr 1 0)), (10, (vi z6x22)), (11, (V.ptr 4 0)), (35, (V.sl (.int .i64) z6x23 none)), (36, (vi z6x24)), (37, (vi (wI (z6x25 + 1))))], [Blk.dead, (Blk.cells [(V.int .u32 0), (vb false), (vu 0), (vu 0), (vu 0), (vu 0), (vu 0), (vi 0), (vi 0), (vi 0), (vi 0), (vb false), (vi 0), (vu 0), (vi 0), (vi 0), (V.old (.slice none 0 0))]), Blk.dead, Blk.dead, (Blk.cells [(V.int .u32 z6x1), (vb z6x2), (vu z6x3), (vu z6x4), (vu z6x5), (vu z6x6), (vu z6x7), (vi z6x8), (vi z6x9), (vi z6x10), (vi z6x11), (vb z6x12), (vi z6x13), (vu z6x14), (vi z6x15), (vi z6x16), (V.row 5 1 (List.length (z6x0 ++ [(List.getD z6x23 (Int.toNat z6x25) 0)])) c8), (vu z6x17), (V.int .u32 z6x18), (vi z6x19), (vi 0), (vi z6x20)]), (Blk.row (.int .i64) (z6x0 ++ [(List.getD z6x23 (Int.toNat z6x25) 0)]) 2 c8)], []⟩, ⟨[], rfl, rfl⟩, Or.inr ⟨[0, 1, 2, 3, 4, 7], rfl, rfl, rfl, rfl, rfl, ⟨rfl, rfl, rfl, rfl, rfl, rfl, rfl, trivial⟩, ⟨Or.inl rfl, Or.inr rfl, Or.inl rfl, Or.inl rfl, Or.inr rfl, Or.inr rfl, trivial⟩, rfl, rfl⟩, Or.inr ⟨⟨Or.inl rfl, Or.inl rfl, Or.inl rfl, Or.inl rfl, Or.inl rfl, Or.inl rfl, Or.inl rfl, trivial⟩, ⟨Or.inl rfl, Or.inl rfl, Or.inl rfl, Or.inl rfl, Or.inl rfl, Or.inl rfl, trivial⟩, rfl, rfl, rfl⟩⟩⟩
        · refine rqn_intro 2 ?_
          exact hnext (z6x0, z6x1, z6x2, z6x3, z6x4, z6x5, z6x6, z6x7, z6x8, z6x9, z6x10, z6x11, z6x12, z6x13, z6x14, z6x15, z6x16, z6x17, z6x18, z6x19, z6x20, z6x21, z6x22, z6x23, z6x24, (wI (z6x25 + 1))) _ h hK ⟨z6k0, wk_of (Or.inr ⟨⟨Or.inl rfl, Or.inl rfl, Or.inl rfl, Or.inl rfl, Or.inl rfl, Or.inl rfl, Or.inl rfl, trivial⟩, ⟨Or.inl rfl, Or.inl rfl, Or.inl rfl, Or.inl rfl, Or.inl rfl, Or.inl rfl, trivial⟩, rfl, rfl, rfl⟩)⟩
      · refine rqn_intro 4 ?_
        exact hnext (z6x0, z6x1, z6x2, z6x3, z6x4, z6x5, z6x6, z6x7, z6x8, z6x9, z6x10, z6x11, z6x12, z6x13, z6x14, z6x15, z6x16, z6x17, z6x18, z6x19, z6x20, z6x21, z6x22, z6x23, z6x24, (wI (z6x25 + 1))) _ h hK ⟨z6k0, wk_of (Or.inr ⟨⟨Or.inl rfl, Or.inl rfl, Or.inl rfl, Or.inl rfl, Or.inl rfl, Or.inl rfl, Or.inl rfl, trivial⟩, ⟨Or.inl rfl, Or.inl rfl, Or.inl rfl, Or.inl rfl, Or.inl rfl, Or.inl rfl, trivial⟩, rfl, rfl, rfl⟩)⟩
  · subst h
    refine ⟨_, ?_, hK z6k0⟩
    exact wk_of (Or.inr ⟨⟨Or.inl rfl, Or.inl rfl, Or.inl rfl, trivial⟩, ⟨Or.inl rfl, Or.inl rfl, Or.inl rfl, Or.inl rfl, Or.inl rfl, Or.inl rfl, trivial⟩, rfl, rfl, rfl⟩)
theorem q28_0_ok (n : Nat) : Owed q28_cx okT 28 q28_lp (n + 2) q28_0_lp := loop_owed (fun z y h => h) fun k zz qq cc yy K h hK next hnext => q28_0_step n k zz.1 zz.2.1 zz.2.2.1 zz.2.2.2.1 zz.2.2.2.2.1 zz.2.2.2.2.2.1 zz.2.2.2.2.2.2.1 zz.2.2.2.2.2.2.2.1 zz.2.2.2.2.2.2.2.2.1 zz.2.2.2.2.2.2.2.2.2.1 zz.2.2.2.2.2.2.2.2.2.2.1 zz.2.2.2.2.2.2.2.2.2.2.2.1 zz.2.2.2.2.2.2.2.2.2.2.2.2.1 zz.2.2.2.2.2.2.2.2.2.2.2.2.2.1 zz.2.2.2.2.2.2.2.2.2.2.2.2.2.2.1 zz.2.2.2.2.2.2.2.2.2.2.2.2.2.2.2.1 zz.2.2.2.2.2.2.2.2.2.2.2.2.2.2.2.2.1 zz.2.2.2.2.2.2.2.2.2.2.2.2.2.2.2.2.2.1 zz.2.2.2.2.2.2.2.2.2.2.2.2.2.2.2.2.2.2.1 zz.2.2.2.2.2.2.2.2.2.2.2.2.2.2.2.2.2.2.2.1 zz.2.2.2.2.2.2.2.2.2.2.2.2.2.2.2.2.2.2.2.2.1 zz.2.2.2.2.2.2.2.2.2.2.2.2.2.2.2.2.2.2.2.2.2.1 zz.2.2.2.2.2.2.2.2.2.2.2.2.2.2.2.2.2.2.2.2.2.2.1 zz.2.2.2.2.2.2.2.2.2.2.2.2.2.2.2.2.2.2.2.2.2.2.2.1 zz.2.2.2.2.2.2.2.2.2.2.2.2.2.2.2.2.2.2.2.2.2.2.2.2.1 zz.2.2.2.2.2.2.2.2.2.2.2.2.2.2.2.2.2.2.2.2.2.2.2.2.2 cc yy K h hK next hnext
theorem q28_lpok : LpOk q28_cx okT q28_lp := LpOk_tab ⟨q28_0_ok, trivial⟩
def due_Step_R (a0 : Int) (a1 : Bool) (a2 : Int) (a3 : Int) (a4 : Int) (a5 : Int) (a6 : Int) (a7 : Int) (a8 : Int) (a9 : Int) (a10 : Int) (a11 : Bool) (a12 : Int) (a13 : Int) (a14 : Int) (a15 : Int) (a16 : List Int) (a17 : Int) (a18 : Int) (y : (Int × Bool × Int × Int × Int × Int × Int × Int × Int × Int × Int × Bool × Int × Int × Int × Int × List Int) × (List (Int × Int × Int × Int)) × Int) : Prop :=
  (∃ y1 : Int, (table_CheckRow_R a0 a1 a2 a3 a4 a5 a6 a7 a8 a9 a10 a11 a12 a13 a14 a15 a16 y1) ∧ (br (y1 != 0) (((0, (false, (0, (0, (0, (0, (0, (0, (0, (0, (0, (false, (0, (0, (0, (0, [])))))))))))))))), ([], 230)) = y) (∃ y2 : Bool, (times_May_R a17 y2) ∧ (br (!y2) (((0, (false, (0, (0, (0, (0, (0, (0, (0, (0, (0, (false, (0, (0, (0, (0, [])))))))))))))))), ([], 230)) = y) (br (a18 == 0) (((0, (false, (0, (0, (0, (0, (0, (0, (0, (0, (0, (false, (0, (0, (0, (0, [])))))))))))))))), ([], 230)) = y) (∃ y3 : List Int × Int, (due_Occur_R a0 a1 a2 a3 a4 a5 a6 a7 a8 a9 a10 a11 a12 a13 a14 a15 a16 a17 y3) ∧ (∃ y4 : List Int, (slices_Clone__int64_int64_R a16 y4) ∧ (∃ y10 : due_Step_l0_Y, due_Step_l0_L (y4, a0, a1, a2, a3, a4, a5, a6, a7, a8, a9, a10, a11, a12, a13, a14, a15, 0, 0, 0, 0, a18, (y3.2), (y3.1), (((List.length (y3.1)) : Nat) : Int), 0) y10 ∧ (req ((((decide (0 ≤ (y10.2.2.2.2.2.2.2))) && (Nat.ble (Int.toNat (y10.2.2.2.2.2.2.2)) 1)) && (decide (0 ≤ (y10.2.2.2.2.2.2.2)))) && (Nat.ble 0 (Int.toNat (y10.2.2.2.2.2.2.2)))) (req (Nat.ble ((Int.toNat (y10.2.2.2.2.2.2.2)) - 0) 1) (((a0, (a1, (a2, (a3, (a4, (a5, (a6, (a7, (a8, (a9, (a10, (a11, ((y3.2), ((y10.2.1), ((y10.2.2.1), ((y10.2.2.2.1), (y10.1))))))))))))))))), ((List.take ((Int.toNat (y10.2.2.2.2.2.2.2)) - 0) [((y10.2.2.2.2.1), ((y10.2.2.2.2.2.1), ((y10.2.2.2.2.2.2.1), 0)))]), 0)) = y)))))))))))
theorem q28_tree (a0 : Int) (a1 : Bool) (a2 : Int) (a3 : Int) (a4 : Int) (a5 : Int) (a6 : Int) (a7 : Int) (a8 : Int) (a9 : Int) (a10 : Int) (a11 : Bool) (a12 : Int) (a13 : Int) (a14 : Int) (a15 : Int) (a16 : List Int) (a17 : Int) (a18 : Int) (y : (Int × Bool × Int × Int × Int × Int × Int × Int × Int × Int × Int × Bool × Int × Int × Int × Int × List Int) × (List (Int × Int × Int × Int)) × Int) : acall q28_cx okT q28_lp 60 (.fn 28 [] []) [(V.agg [(V.int .u32 a0), (V.bool a1), (V.int .u64 a2), (V.int .u64 a3), (V.int .u64 a4), (V.int .u64 a5), (V.int .u64 a6), (V.int .i64 a7), (V.int .i64 a8), (V.int .i64 a9), (V.int .i64 a10), (V.bool a11), (V.int .i64 a12), (V.int .u64 a13), (V.int .i64 a14), (V.int .i64 a15), (V.sl (.int .i64) a16 none)]), (V.int .i64 a17), (V.int .u64 a18)] [] (leafK (.tup (.cons (.agg (.cons (.int .u32) (.cons .bool (.cons (.int .u64) (.cons (.int .u64) (.cons (.int .u64) (.cons (.int .u64) (.cons (.int .u64) (.cons (.int .i64) (.cons (.int .i64) (.cons (.int .i64) (.cons (.int .i64) (.cons .bool (.cons (.int .i64) (.cons (.int .u64) (.cons (.int .i64) (.cons (.int .i64) (.one (.nw (.int .i64) 2))))))))))))))))))) (.cons (.sl (.pr (.int .u64) (.pr (.int .u32) (.pr (.int .i64) (.int .i64))))) (.one (.int .i64))))) y) =
    (rqn 4 (∃ y1 : Int, (table_CheckRow_R a0 a1 a2 a3 a4 a5 a6 a7 a8 a9 a10 a11 a12 a13 a14 a15 a16 y1) ∧ (rqn 2 (br (y1 != 0) (rqn 6 (req true (((0, (false, (0, (0, (0, (0, (0, (0, (0, (0, (0, (false, (0, (0, (0, (0, [])))))))))))))))), ([], 230)) = y))) (rqn 2 (∃ y2 : Bool, (times_May_R a17 y2) ∧ (rqn 3 (br (!y2) (rqn 4 (req true (((0, (false, (0, (0, (0, (0, (0, (0, (0, (0, (0, (false, (0, (0, (0, (0, [])))))))))))))))), ([], 230)) = y))) (rqn 3 (br (a18 == 0) (rqn 3 (req true (((0, (false, (0, (0, (0, (0, (0, (0, (0, (0, (0, (false, (0, (0, (0, (0, [])))))))))))))))), ([], 230)) = y))) (rqn 3 (∃ y3 : List Int × Int, (due_Occur_R a0 a1 a2 a3 a4 a5 a6 a7 a8 a9 a10 a11 a12 a13 a14 a15 a16 a17 y3) ∧ (rqn 10 (∃ y4 : List Int, (slices_Clone__int64_int64_R a16 y4) ∧ (∀ c5 : Nat, Nat.ble (List.length y4) c5 = true → (rqn 8 (((none : Option Nat) = (none : Option Nat)) ∧ (q28_0_body = q28_0_body) ∧ ∃ z9 : due_Step_l0_Z, ∃ z9q : q28_0_Q, ∃ y10 : due_Step_l0_Y, (5 = 5) ∧ (∃ zc : q28_0_C, wk 5 ⟨[(0, (V.agg [(V.int .u32 a0), (vb a1), (vu a2), (vu a3), (vu a4), (vu a5), (vu a6), (vi a7), (vi a8), (vi a9), (vi a10), (vb a11), (vi a12), (vu a13), (vi a14), (vi a15), (V.sl (.int .i64) a16 none)])), (1, (vi a17)), (2, (vu a18)), (3, (V.ptr 0 0)), (6, (V.ptr 1 0)), (7, (V.old (.slice none 0 0))), (8, (vi 0)), (25, (vb (a18 == 0))), (9, (V.sl (.int .i64) (y3.1) none)), (10, (vi (y3.2))), (11, (V.ptr 4 0)), (35, (V.sl (.int .i64) (y3.1) none)), (36, (vi (((List.length (y3.1)) : Nat) : Int))), (37, (vi 0))], [(Blk.cells [(V.int .u32 a0), (vb a1), (vu a2), (vu a3), (vu a4), (vu a5), (vu a6), (vi a7), (vi a8), (vi a9), (vi a10), (vb a11), (vi a12), (vu a13), (vi a14), (vi a15), (V.sl (.int .i64) a16 none)]), (Blk.cells [(V.int .u32 0), (vb false), (vu 0), (vu 0), (vu 0), (vu 0), (vu 0), (vi 0), (vi 0), (vi 0), (vi 0), (vb false), (vi 0), (vu 0), (vi 0), (vi 0), (V.old (.slice none 0 0))]), (Blk.cells [(V.int .u32 a0), (vb a1), (vu a2), (vu a3), (vu a4), (vu a5), (vu a6), (vi a7), (vi a8), (vi a9), (vi a10), (vb a11), (vi a12), (vu a13), (vi a14), (vi a15), (V.row 3 1 (List.length y4) c5)]), (Blk.row (.int .i64) y4 2 c5), (Blk.cells [(V.int .u32 a0), (vb a1), (vu a2), (vu a3), (vu a4), (vu a5), (vu a6), (vi a7), (vi a8), (vi a9), (vi a10), (vb a11), (vi a12), (vu a13), (vi a14), (vi a15), (V.row 3 1 (List.length y4) c5), (vu 0), (V.int .u32 0), (vi 0), (vi 0), (vi 0)])], []⟩ (q28_0_st z9 z9q zc)) ∧ (∃ k, due_Step_l0 k z9 y10) ∧ (∀ y10c : Nat, (rqn 5 ((rqn 14 (req (((((true && (decide (0 ≤ (y10.2.2.2.2.2.2.2)))) && (Nat.ble (Int.toNat (y10.2.2.2.2.2.2.2)) 1)) && ((decide (0 ≤ (y10.2.2.2.2.2.2.2))) && (Nat.ble (Int.toNat (y10.2.2.2.2.2.2.2)) (Int.toNat (y10.2.2.2.2.2.2.2))))) && (true && (Nat.ble 0 (Int.toNat (y10.2.2.2.2.2.2.2))))) && true) (req true (req (((true && (true && (true && (true && (true && (true && (true && (true && (true && (true && (true && (true && (true && (true && (true && (true && true)))))))))))))))) && ((Nat.ble ((Int.toNat (y10.2.2.2.2.2.2.2)) - 0) 1) && true)) && ((true && (true && (true && (true && (true && (true && (true && (true && (true && (true && (true && (true && (true && (true && (true && (true && ((Nat.beq (List.length (y10.1)) (List.length (y10.1))) && (Nat.beq y10c y10c)))))))))))))))))) && (true && true))) ((((z9.2.1), ((z9.2.2.1), ((z9.2.2.2.1), ((z9.2.2.2.2.1), ((z9.2.2.2.2.2.1), ((z9.2.2.2.2.2.2.1), ((z9.2.2.2.2.2.2.2.1), ((z9.2.2.2.2.2.2.2.2.1), ((z9.2.2.2.2.2.2.2.2.2.1), ((z9.2.2.2.2.2.2.2.2.2.2.1), ((z9.2.2.2.2.2.2.2.2.2.2.2.1), ((z9.2.2.2.2.2.2.2.2.2.2.2.2.1), ((z9.2.2.2.2.2.2.2.2.2.2.2.2.2.2.2.2.2.2.2.2.2.2.1), ((y10.2.1), ((y10.2.2.1), ((y10.2.2.2.1), (y10.1))))))))))))))))), ((List.take ((Int.toNat (y10.2.2.2.2.2.2.2)) - 0) [((y10.2.2.2.2.1), ((y10.2.2.2.2.2.1), ((y10.2.2.2.2.2.2.1), 0)))]), 0)) = y))))) ∧ (rqn 13 (req (((((true && (decide (0 ≤ (y10.2.2.2.2.2.2.2)))) && (Nat.ble (Int.toNat (y10.2.2.2.2.2.2.2)) 1)) && ((decide (0 ≤ (y10.2.2.2.2.2.2.2))) && (Nat.ble (Int.toNat (y10.2.2.2.2.2.2.2)) (Int.toNat (y10.2.2.2.2.2.2.2))))) && (true && (Nat.ble 0 (Int.toNat (y10.2.2.2.2.2.2.2))))) && true) (rqn 2 (req (((true && (true && (true && (true && (true && (true && (true && (true && (true && (true && (true && (true && (true && (true && (true && (true && true)))))))))))))))) && ((Nat.ble ((Int.toNat (y10.2.2.2.2.2.2.2)) - 0) 1) && true)) && ((true && (true && (true && (true && (true && (true && (true && (true && (true && (true && (true && (true && (true && (true && (true && (true && ((Nat.beq (List.length (y10.1)) (List.length (y10.1))) && (Nat.beq y10c y10c)))))))))))))))))) && (true && true))) ((((z9.2.1), ((z9.2.2.1), ((z9.2.2.2.1), ((z9.2.2.2.2.1), ((z9.2.2.2.2.2.1), ((z9.2.2.2.2.2.2.1), ((z9.2.2.2.2.2.2.2.1), ((z9.2.2.2.2.2.2.2.2.1), ((z9.2.2.2.2.2.2.2.2.2.1), ((z9.2.2.2.2.2.2.2.2.2.2.1), ((z9.2.2.2.2.2.2.2.2.2.2.2.1), ((z9.2.2.2.2.2.2.2.2.2.2.2.2.1), ((z9.2.2.2.2.2.2.2.2.2.2.2.2.2.2.2.2.2.2.2.2.2.2.1), ((y10.2.1), ((y10.2.2.1), ((y10.2.2.2.1), (y10.1))))))))))))))))), ((List.take ((Int.toNat (y10.2.2.2.2.2.2.2)) - 0) [((y10.2.2.2.2.1), ((y10.2.2.2.2.2.1), ((y10.2.2.2.2.2.2.1), 0)))]), 0)) = y))))))))))))))))))))))))) := by kernel_rfl
theorem q28_run (a0 : Int) (a1 : Bool) (a2 : Int) (a3 : Int) (a4 : Int) (a5 : Int) (a6 : Int) (a7 : Int) (a8 : Int) (a9 : Int) (a10 : Int) (a11 : Bool) (a12 : Int) (a13 : Int) (a14 : Int) (a15 : Int) (a16 : List Int) (a17 : Int) (a18 : Int) (y : (Int × Bool × Int × Int × Int × Int × Int × Int × Int × Int × Int × Bool × Int × Int × Int × Int × List Int) × (List (Int × Int × Int × Int)) × Int) (h : due_Step_R a0 a1 a2 a3 a4 a5 a6 a7 a8 a9 a10 a11 a12 a13 a14 a15 a16 a17 a18 y) : acall q28_cx okT q28_lp 60 (.fn 28 [] []) [(V.agg [(V.int .u32 a0), (V.bool a1), (V.int .u64 a2), (V.int .u64 a3), (V.int .u64 a4), (V.int .u64 a5), (V.int .u64 a6), (V.int .i64 a7), (V.int .i64 a8), (V.int .i64 a9), (V.int .i64 a10), (V.bool a11), (V.int .i64 a12), (V.int .u64 a13), (V.int .i64 a14), (V.int .i64 a15), (V.sl (.int .i64) a16 none)]), (V.int .i64 a17), (V.int .u64 a18)] [] (leafK (.tup (.cons (.agg (.cons (.int .u32) (.cons .bool (.cons (.int .u64) (.cons (.int .u64) (.cons (.int .u64) (.cons (.int .u64) (.cons (.int .u64) (.cons (.int .i64) (.cons (.int .i64) (.cons (.int .i64) (.cons (.int .i64) (.cons .bool (.cons (.int .i64) (.cons (.int .u64) (.cons (.int .i64) (.cons (.int .i64) (.one (.nw (.int .i64) 2))))))))))))))))))) (.cons (.sl (.pr (.int .u64) (.pr (.int .u32) (.pr (.int .i64) (.int .i64))))) (.one (.int .i64))))) y) := by
  refine cast (q28_tree a0 a1 a2 a3 a4 a5 a6 a7 a8 a9 a10 a11 a12 a13 a14 a15 a16 a17 a18 y).symm ?_
  unfold due_Step_R at h
  refine rqn_intro 4 ?_
  refine ex_both h fun y1 h => ?_
  refine rqn_intro 2 ?_
  refine br_both h (fun hb h => ?_) (fun hb h => ?_)
  · refine rqn_intro 6 ?_
    exact req_intro rfl h
  · refine rqn_intro 2 ?_
    refine ex_both h fun y2 h => ?_
    refine rqn_intro 3 ?_
    refine br_both h (fun hb h => ?_) (fun hb h => ?_)
    · refine rqn_intro 4 ?_
      exact req_intro rfl h
    · refine rqn_intro 3 ?_
      refine br_both h (fun hb h => ?_) (fun hb h => ?_)
      · refine rqn_intro 3 ?_
        exact req_intro rfl h
      · refine rqn_intro 3 ?_
        refine ex_both h fun y3 h => ?_
        refine rqn_intro 10 ?_
        refine ex_both h fun y4 h => ?_
        intro c5 hc5
        refine rqn_intro 8 ?_
        obtain ⟨y10, ry10, h⟩ := h
        refine ⟨rfl, rfl, (y4, a0, a1, a2, a3, a4, a5, a6, a7, a8, a9, a10, a11, a12, a13, a14, a15, 0, 0, 0, 0, a18, (y3.2), (y3.1), (((List.length (y3.1)) : Nat) : Int), 0), (), y10, rfl, ⟨c5, ⟨_, ⟨[(2, (vu a18)), (6, (V.ptr 1 0)), (10, (vi (y3.2))), (11, (V.ptr 4 0)), (35, (V.sl (.int .i64) (y3.1) none)), (36, (vi (((List.length (y3.1)) : Nat) : Int))), (37, (vi 0))], [Blk.dead, (Blk.cells [(V.int .u32 0), (vb false), (vu 0), (vu 0), (vu 0), (vu 0), (vu 0), (vi 0), (vi 0), (vi 0), (vi 0), (vb false), (vi 0), (vu 0), (vi 0), (vi 0), (V.old (.slice none 0 0))]), Blk.dead, Blk.dead, (Blk.cells [(V.int .u32 a0), (vb a1), (vu a2), (vu a3), (vu a4), (vu a5), (vu a6), (vi a7), (vi a8), (vi a9), (vi a10), (vb a11), (vi a12), (vu a13), (vi a14), (vi a15), (V.row 5 1 (List.length y4) c5), (vu 0), (V.int .u32 0), (vi 0), (vi 0), (vi 0)]), (Blk.row (.int .i64) y4 2 c5)], []⟩, ⟨[], rfl, rfl⟩, Or.inr ⟨[0, 1, 2, 3, 4, 3], rfl, rfl, rfl, rfl, rfl, ⟨rfl, rfl, rfl, rfl, rfl, rfl, rfl, trivial⟩, ⟨Or.inl rfl, Or.inr rfl, Or.inl rfl, Or.inl rfl, Or.inr rfl, Or.inr rfl, trivial⟩, rfl, rfl⟩, Or.inr ⟨⟨Or.inl rfl, Or.inl rfl, Or.inl rfl, Or.inl rfl, Or.inl rfl, Or.inl rfl, Or.inl rfl, trivial⟩, ⟨Or.inl rfl, Or.inl rfl, Or.inl rfl, Or.inl rfl, Or.inl rfl, Or.inl rfl, trivial⟩, rfl, rfl, rfl⟩⟩⟩, ry10, ?_⟩
        intro y10c
        refine rqn_intro 5 ?_
        refine ⟨?_, ?_⟩
        · refine rqn_intro 14 ?_
          obtain ⟨q, h⟩ := req_of h
          refine req_intro (band (band (band (band (band rfl (band_l (band_l (band_l q)))) (band_r (band_l (band_l q)))) (band (band_r (band_l q)) (ble_same _))) (band rfl (band_r q))) rfl) ?_
          refine req_intro rfl ?_
          obtain ⟨q, h⟩ := req_of h
          exact req_intro (band (band (band rfl (band rfl (band rfl (band rfl (band rfl (band rfl (band rfl (band rfl (band rfl (band rfl (band rfl (band rfl (band rfl (band rfl (band rfl (band rfl rfl)))))))))))))))) (band q rfl)) (band (band rfl (band rfl (band rfl (band rfl (band rfl (band rfl (band rfl (band rfl (band rfl (band rfl (band rfl (band rfl (band rfl (band rfl (band rfl (band rfl (band (Nat.beq_refl _) (Nat.beq_refl _)))))))))))))))))) (band rfl rfl))) h
        · refine rqn_intro 13 ?_
          obtain ⟨q, h⟩ := req_of h
          refine req_intro (band (band (band (band (band rfl (band_l (band_l (band_l q)))) (band_r (band_l (band_l q)))) (band (band_r (band_l q)) (ble_same _))) (band rfl (band_r q))) rfl) ?_
          refine rqn_intro 2 ?_
          obtain ⟨q, h⟩ := req_of h
          exact req_intro (band (band (band rfl (band rfl (band rfl (band rfl (band rfl (band rfl (band rfl (band rfl (band rfl (band rfl (band rfl (band rfl (band rfl (band rfl (band rfl (band rfl rfl)))))))))))))))) (band q rfl)) (band (band rfl (band rfl (band rfl (band rfl (band rfl (band rfl (band rfl (band rfl (band rfl (band rfl (band rfl (band rfl (band rfl (band rfl (band rfl (band rfl (band (Nat.beq_refl _) (Nat.beq_refl _)))))))))))))))))) (band rfl rfl))) h
theorem due_Step_ok : FxOk Tryd.prog gsT 28 (.cons (.agg (.cons (.int .u32) (.cons .bool (.cons (.int .u64) (.cons (.int .u64) (.cons (.int .u64) (.cons (.int .u64) (.cons (.int .u64) (.cons (.int .i64) (.cons (.int .i64) (.cons (.int .i64) (.cons (.int .i64) (.cons .bool (.cons (.int .i64) (.cons (.int .u64) (.cons (.int .i64) (.cons (.int .i64) (.one (.sl (.int .i64)))))))))))))))))))) (.cons (.int .i64) (.one (.int .u64)))) (.tup (.cons (.agg (.cons (.int .u32) (.cons .bool (.cons (.int .u64) (.cons (.int .u64) (.cons (.int .u64) (.cons (.int .u64) (.cons (.int .u64) (.cons (.int .i64) (.cons (.int .i64) (.cons (.int .i64) (.cons (.int .i64) (.cons .bool (.cons (.int .i64) (.cons (.int .u64) (.cons (.int .i64) (.cons (.int .i64) (.one (.nw (.int .i64) 2))))))))))))))))))) (.cons (.sl (.pr (.int .u64) (.pr (.int .u32) (.pr (.int .i64) (.int .i64))))) (.one (.int .i64))))) fun x y => due_Step_R (x.1.1) (x.1.2.1) (x.1.2.2.1) (x.1.2.2.2.1) (x.1.2.2.2.2.1) (x.1.2.2.2.2.2.1) (x.1.2.2.2.2.2.2.1) (x.1.2.2.2.2.2.2.2.1) (x.1.2.2.2.2.2.2.2.2.1) (x.1.2.2.2.2.2.2.2.2.2.1) (x.1.2.2.2.2.2.2.2.2.2.2.1) (x.1.2.2.2.2.2.2.2.2.2.2.2.1) (x.1.2.2.2.2.2.2.2.2.2.2.2.2.1) (x.1.2.2.2.2.2.2.2.2.2.2.2.2.2.1) (x.1.2.2.2.2.2.2.2.2.2.2.2.2.2.2.1) (x.1.2.2.2.2.2.2.2.2.2.2.2.2.2.2.2.1) (x.1.2.2.2.2.2.2.2.2.2.2.2.2.2.2.2.2) (x.2.1) (x.2.2) y := fx_of (c := q28_cx) (ty_ok rfl) (eq_ok rfl) q28_fns follows_ok (ok := okT) (lp := q28_lp) (n := 60) q28_lpok (enters Tryd.func28 (by kernel_rfl) rfl) (fun y => ⟨_, rfl⟩) fun x y h => q28_run _ _ _ _ _ _ _ _ _ _ _ _ _ _ _ _ _ _ _ y h
noncomputable def q29_cx : Cx := ⟨tyT, [(27, .fx (.one (.agg (.cons (.int .u32) (.cons .bool (.cons (.int .u64) (.cons (.int .u64) (.cons (.int .u64) (.cons (.int .u64) (.cons (.int .u64) (.cons (.int .i64) (.cons (.int .i64) (.cons (.int .i64) (.cons (.int .i64) (.cons .bool (.cons (.int .i64) (.cons (.int .u64) (.cons (.int .i64) (.cons (.int .i64) (.one (.sl (.int .i64))))))))))))))))))))) (.int .i64) fun x y => table_CheckRow_R (x.1) (x.2.1) (x.2.2.1) (x.2.2.2.1) (x.2.2.2.2.1) (x.2.2.2.2.2.1) (x.2.2.2.2.2.2.1) (x.2.2.2.2.2.2.2.1) (x.2.2.2.2.2.2.2.2.1) (x.2.2.2.2.2.2.2.2.2.1) (x.2.2.2.2.2.2.2.2.2.2.1) (x.2.2.2.2.2.2.2.2.2.2.2.1) (x.2.2.2.2.2.2.2.2.2.2.2.2.1) (x.2.2.2.2.2.2.2.2.2.2.2.2.2.1) (x.2.2.2.2.2.2.2.2.2.2.2.2.2.2.1) (x.2.2.2.2.2.2.2.2.2.2.2.2.2.2.2.1) (x.2.2.2.2.2.2.2.2.2.2.2.2.2.2.2.2) y),
  (29, .body Tryd.f29),
  (55, .fx (.one (.sl (.int .i64))) (.nw (.int .i64) 2) fun x y => slices_Clone__int64_int64_R x y),
  (60, .body Tryd.f60),
  (62, .body Tryd.f62),
  (63, .body Tryd.f63)], gsT, eqT⟩
theorem q29_fns : FnsOk Tryd.prog q29_cx := Fns_assoc ⟨table_CheckRow_ok, body_ent Tryd.func29 (by kernel_rfl) (by kernel_rfl), slices_Clone__int64_int64_ok, body_ent Tryd.func60 (by kernel_rfl) (by kernel_rfl), body_ent Tryd.func62 (by kernel_rfl) (by kernel_rfl), body_ent Tryd.func63 (by kernel_rfl) (by kernel_rfl), trivial⟩
def due_End_R (a0 : Int) (a1 : Bool) (a2 : Int) (a3 : Int) (a4 : Int) (a5 : Int) (a6 : Int) (a7 : Int) (a8 : Int) (a9 : Int) (a10 : Int) (a11 : Bool) (a12 : Int) (a13 : Int) (a14 : Int) (a15 : Int) (a16 : List Int) (a17 : Int) (a18 : Bool) (a19 : Int) (y : (Int × Bool × Int × Int × Int × Int × Int × Int × Int × Int × Int × Bool × Int × Int × Int × Int × List Int) × (List (Int × Int × Int × Int)) × Bool × Int) : Prop :=
  (∃ y1 : Int, (table_CheckRow_R a0 a1 a2 a3 a4 a5 a6 a7 a8 a9 a10 a11 a12 a13 a14 a15 a16 y1) ∧ (br (y1 != 0) (((0, (false, (0, (0, (0, (0, (0, (0, (0, (0, (0, (false, (0, (0, (0, (0, [])))))))))))))))), ([], (false, 230))) = y) (br (a19 == 0) (((0, (false, (0, (0, (0, (0, (0, (0, (0, (0, (0, (false, (0, (0, (0, (0, [])))))))))))))))), ([], (false, 230))) = y) (br (a19 == a17) (((0, (false, (0, (0, (0, (0, (0, (0, (0, (0, (0, (false, (0, (0, (0, (0, [])))))))))))))))), ([], (false, 230))) = y) (br (a17 == 0) (((0, (false, (0, (0, (0, (0, (0, (0, (0, (0, (0, (false, (0, (0, (0, (0, [])))))))))))))))), ([], (false, 4))) = y) (br (a13 != a17) (((0, (false, (0, (0, (0, (0, (0, (0, (0, (0, (0, (false, (0, (0, (0, (0, [])))))))))))))))), ([], (false, 4))) = y) (∃ y2 : List Int, (slices_Clone__int64_int64_R a16 y2) ∧ (br (!a18) (br (decide (a15 < a10)) (((a0, (a1, (a2, (a3, (a4, (a5, (a6, (a7, (a8, (a9, (a10, (a11, (a12, (a19, (a14, ((IntKind.wrap .i64 (a15 + 1)), y2)))))))))))))))), ([(a19, (a0, (a14, (IntKind.wrap .i64 (a15 + 1)))))], (false, 0))) = y) (br (decide ((((List.length y2) : Nat) : Int) > 0)) (req (decide (0 < (((List.length y2) : Nat) : Int))) (req (Nat.blt 0 (List.length y2)) (req (Nat.ble 1 (List.length y2)) (req (Nat.ble (1 + ((List.length y2) - 1)) (List.length y2)) (((a0, (a1, (a2, (a3, (a4, (a5, (a6, (a7, (a8, (a9, (a10, (a11, (a12, (a19, ((List.getD y2 0 0), (0, (List.take ((List.length y2) - 1) (List.drop 1 y2)))))))))))))))))), ([(a19, (a0, ((List.getD y2 0 0), 0)))], (false, 0))) = y))))) (br a1 (((a0, (a1, (a2, (a3, (a4, (a5, (a6, (a7, (a8, (a9, (a10, (a11, (a12, (0, (0, (0, y2)))))))))))))))), ([], ((a12 == (-1)), 0))) = y) (((a0, (a1, (a2, (a3, (a4, (a5, (a6, (a7, (a8, (a9, (a10, (a11, (a12, (0, (0, (0, y2)))))))))))))))), ([], (false, 0))) = y)))) (br (decide ((((List.length y2) : Nat) : Int) > 0)) (req (decide (0 < (((List.length y2) : Nat) : Int))) (req (Nat.blt 0 (List.length y2)) (req (Nat.ble 1 (List.length y2)) (req (Nat.ble (1 + ((List.length y2) - 1)) (List.length y2)) (((a0, (a1, (a2, (a3, (a4, (a5, (a6, (a7, (a8, (a9, (a10, (a11, (a12, (a19, ((List.getD y2 0 0), (0, (List.take ((List.length y2) - 1) (List.drop 1 y2)))))))))))))))))), ([(a19, (a0, ((List.getD y2 0 0), 0)))], (false, 0))) = y))))) (br a1 (((a0, (a1, (a2, (a3, (a4, (a5, (a6, (a7, (a8, (a9, (a10, (a11, (a12, (0, (0, (0, y2)))))))))))))))), ([], ((a12 == (-1)), 0))) = y) (((a0, (a1, (a2, (a3, (a4, (a5, (a6, (a7, (a8, (a9, (a10, (a11, (a12, (0, (0, (0, y2)))))))))))))))), ([], (false, 0))) = y)))))))))))
theorem q29_tree (a0 : Int) (a1 : Bool) (a2 : Int) (a3 : Int) (a4 : Int) (a5 : Int) (a6 : Int) (a7 : Int) (a8 : Int) (a9 : Int) (a10 : Int) (a11 : Bool) (a12 : Int) (a13 : Int) (a14 : Int) (a15 : Int) (a16 : List Int) (a17 : Int) (a18 : Bool) (a19 : Int) (y : (Int × Bool × Int × Int × Int × Int × Int × Int × Int × Int × Int × Bool × Int × Int × Int × Int × List Int) × (List (Int × Int × Int × Int)) × Bool × Int) : acall q29_cx okT lpT 60 (.fn 29 [] []) [(V.agg [(V.int .u32 a0), (V.bool a1), (V.int .u64 a2), (V.int .u64 a3), (V.int .u64 a4), (V.int .u64 a5), (V.int .u64 a6), (V.int .i64 a7), (V.int .i64 a8), (V.int .i64 a9), (V.int .i64 a10), (V.bool a11), (V.int .i64 a12), (V.int .u64 a13), (V.int .i64 a14), (V.int .i64 a15), (V.sl (.int .i64) a16 none)]), (V.int .u64 a17), (V.bool a18), (V.int .u64 a19)] [] (leafK (.tup (.cons (.agg (.cons (.int .u32) (.cons .bool (.cons (.int .u64) (.cons (.int .u64) (.cons (.int .u64) (.cons (.int .u64) (.cons (.int .u64) (.cons (.int .i64) (.cons (.int .i64) (.cons (.int .i64) (.cons (.int .i64) (.cons .bool (.cons (.int .i64) (.cons (.int .u64) (.cons (.int .i64) (.cons (.int .i64) (.one (.sl (.int .i64)))))))))))))))))))) (.cons (.sl (.pr (.int .u64) (.pr (.int .u32) (.pr (.int .i64) (.int .i64))))) (.cons .bool (.one (.int .i64)))))) y) =
    (rqn 5 (∃ y1 : Int, (table_CheckRow_R a0 a1 a2 a3 a4 a5 a6 a7 a8 a9 a10 a11 a12 a13 a14 a15 a16 y1) ∧ (rqn 2 (br (y1 != 0) (rqn 8 (req true (((0, (false, (0, (0, (0, (0, (0, (0, (0, (0, (0, (false, (0, (0, (0, (0, [])))))))))))))))), ([], (false, 230))) = y))) (rqn 4 (br (a19 == 0) (rqn 6 (req true (((0, (false, (0, (0, (0, (0, (0, (0, (0, (0, (0, (false, (0, (0, (0, (0, [])))))))))))))))), ([], (false, 230))) = y))) (rqn 5 (br (a19 == a17) (rqn 4 (req true (((0, (false, (0, (0, (0, (0, (0, (0, (0, (0, (0, (false, (0, (0, (0, (0, [])))))))))))))))), ([], (false, 230))) = y))) (rqn 3 (br (a17 == 0) (rqn 6 (req true (((0, (false, (0, (0, (0, (0, (0, (0, (0, (0, (0, (false, (0, (0, (0, (0, [])))))))))))))))), ([], (false, 4))) = y))) (rqn 7 (br (a13 != a17) (rqn 4 (req true (((0, (false, (0, (0, (0, (0, (0, (0, (0, (0, (0, (false, (0, (0, (0, (0, [])))))))))))))))), ([], (false, 4))) = y))) (rqn 5 (∃ y2 : List Int, (slices_Clone__int64_int64_R a16 y2) ∧ (∀ c3 : Nat, Nat.ble (List.length y2) c3 = true → (rqn 10 (br (!a18) (rqn 15 (br (decide (a15 < a10)) (rqn 22 (an 3 (req true (an 2 (req true (an 1 (rqn 4 (an 1 (rqn 16 (req (((true && (true && (true && (true && (true && (true && (true && (true && (true && (true && (true && (true && (true && (true && (true && (true && (Nat.beq (List.length y2) (List.length y2)))))))))))))))))) && (true && (true && true))) && ((true && (true && (true && (true && (true && (true && (true && (true && (true && (true && (true && (true && (true && (true && (true && (true && true)))))))))))))))) && (true && (true && true)))) (((a0, (a1, (a2, (a3, (a4, (a5, (a6, (a7, (a8, (a9, (a10, (a11, (a12, (a19, (a14, ((wI (a15 + 1)), y2)))))))))))))))), ([(a19, (a0, (a14, (wI (a15 + 1)))))], (false, 0))) = y))))))))))) (rqn 8 (br (decide ((((List.length y2) : Nat) : Int) > 0)) (rqn 5 (req (true && (decide (0 < (((List.length y2) : Nat) : Int)))) (req (Nat.blt 0 (List.length y2)) (rqn 7 (req ((((true && true) && (Nat.ble c3 c3)) && (true && (Nat.ble (List.length y2) c3))) && (true && (Nat.ble 1 (List.length y2)))) (rqn 12 (an 3 (req true (an 2 (req true (an 1 (rqn 4 (an 1 (rqn 16 (req (((true && (true && (true && (true && (true && (true && (true && (true && (true && (true && (true && (true && (true && (true && (true && (true && (Nat.ble (1 + ((List.length y2) - 1)) (List.length y2)))))))))))))))))) && (true && (true && true))) && ((true && (true && (true && (true && (true && (true && (true && (true && (true && (true && (true && (true && (true && (true && (true && (true && true)))))))))))))))) && (true && (true && true)))) (((a0, (a1, (a2, (a3, (a4, (a5, (a6, (a7, (a8, (a9, (a10, (a11, (a12, (a19, ((List.getD y2 0 0), (0, (List.take ((List.length y2) - 1) (List.drop 1 y2)))))))))))))))))), ([(a19, (a0, ((List.getD y2 0 0), 0)))], (false, 0))) = y)))))))))))))))) (rqn 12 (br a1 (rqn 8 (an 1 (rqn 16 (req (((true && (true && (true && (true && (true && (true && (true && (true && (true && (true && (true && (true && (true && (true && (true && (true && (Nat.beq (List.length y2) (List.length y2)))))))))))))))))) && (true && (true && true))) && ((true && (true && (true && (true && (true && (true && (true && (true && (true && (true && (true && (true && (true && (true && (true && (true && true)))))))))))))))) && (true && (true && true)))) (((a0, (a1, (a2, (a3, (a4, (a5, (a6, (a7, (a8, (a9, (a10, (a11, (a12, (0, (0, (0, y2)))))))))))))))), ([], ((a12 == (-1)), 0))) = y))))) (rqn 2 (an 1 (rqn 16 (req (((true && (true && (true && (true && (true && (true && (true && (true && (true && (true && (true && (true && (true && (true && (true && (true && (Nat.beq (List.length y2) (List.length y2)))))))))))))))))) && (true && (true && true))) && ((true && (true && (true && (true && (true && (true && (true && (true && (true && (true && (true && (true && (true && (true && (true && (true && true)))))))))))))))) && (true && (true && true)))) (((a0, (a1, (a2, (a3, (a4, (a5, (a6, (a7, (a8, (a9, (a10, (a11, (a12, (0, (0, (0, y2)))))))))))))))), ([], (false, 0))) = y))))))))))) (rqn 10 (br (decide ((((List.length y2) : Nat) : Int) > 0)) (rqn 5 (req (true && (decide (0 < (((List.length y2) : Nat) : Int)))) (req (Nat.blt 0 (List.length y2)) (rqn 7 (req ((((true && true) && (Nat.ble c3 c3)) && (true && (Nat.ble (List.length y2) c3))) && (true && (Nat.ble 1 (List.length y2)))) (rqn 12 (an 3 (req true (an 2 (req true (an 1 (rqn 4 (an 1 (rqn 16 (req (((true && (true && (true && (true && (true && (true && (true && (true && (true && (true && (true && (true && (true && (true && (true && (true && (Nat.ble (1 + ((List.length y2) - 1)) (List.length y2)))))))))))))))))) && (true && (true && true))) && ((true && (true && (true && (true && (true && (true && (true && (true && (true && (true && (true && (true && (true && (true && (true && (true && true)))))))))))))))) && (true && (true && true)))) (((a0, (a1, (a2, (a3, (a4, (a5, (a6, (a7, (a8, (a9, (a10, (a11, (a12, (a19, ((List.getD y2 0 0), (0, (List.take ((List.length y2) - 1) (List.drop 1 y2)))))))))))))))))), ([(a19, (a0, ((List.getD y2 0 0), 0)))], (false, 0))) = y)))))))))))))))) (rqn 12 (br a1 (rqn 8 (an 1 (rqn 16 (req (((true && (true && (true && (true && (true && (true && (true && (true && (true && (true && (true && (true && (true && (true && (true && (true && (Nat.beq (List.length y2) (List.length y2)))))))))))))))))) && (true && (true && true))) && ((true && (true && (true && (true && (true && (true && (true && (true && (true && (true && (true && (true && (true && (true && (true && (true && true)))))))))))))))) && (true && (true && true)))) (((a0, (a1, (a2, (a3, (a4, (a5, (a6, (a7, (a8, (a9, (a10, (a11, (a12, (0, (0, (0, y2)))))))))))))))), ([], ((a12 == (-1)), 0))) = y))))) (rqn 2 (an 1 (rqn 16 (req (((true && (true && (true && (true && (true && (true && (true && (true && (true && (true && (true && (true && (true && (true && (true && (true && (Nat.beq (List.length y2) (List.length y2)))))))))))))))))) && (true && (true && true))) && ((true && (true && (true && (true && (true && (true && (true && (true && (true && (true && (true && (true && (true && (true && (true && (true && true)))))))))))))))) && (true && (true && true)))) (((a0, (a1, (a2, (a3, (a4, (a5, (a6, (a7, (a8, (a9, (a10, (a11, (a12, (0, (0, (0, y2)))))))))))))))), ([], (false, 0))) = y)))))))))))))))))))))))))) := by kernel_rfl
theorem q29_run (a0 : Int) (a1 : Bool) (a2 : Int) (a3 : Int) (a4 : Int) (a5 : Int) (a6 : Int) (a7 : Int) (a8 : Int) (a9 : Int) (a10 : Int) (a11 : Bool) (a12 : Int) (a13 : Int) (a14 : Int) (a15 : Int) (a16 : List Int) (a17 : Int) (a18 : Bool) (a19 : Int) (y : (Int × Bool × Int × Int × Int × Int × Int × Int × Int × Int × Int × Bool × Int × Int × Int × Int × List Int) × (List (Int × Int × Int × Int)) × Bool × Int) (h : due_End_R a0 a1 a2 a3 a4 a5 a6 a7 a8 a9 a10 a11 a12 a13 a14 a15 a16 a17 a18 a19 y) : acall q29_cx okT lpT 60 (.fn 29 [] []) [(V.agg [(V.int .u32 a0), (V.bool a1), (V.int .u64 a2), (V.int .u64 a3), (V.int .u64 a4), (V.int .u64 a5), (V.int .u64 a6), (V.int .i64 a7), (V.int .i64 a8), (V.int .i64 a9), (V.int .i64 a10), (V.bool a11), (V.int .i64 a12), (V.int .u64 a13), (V.int .i64 a14), (V.int .i64 a15), (V.sl (.int .i64) a16 none)]), (V.int .u64 a17), (V.bool a18), (V.int .u64 a19)] [] (leafK (.tup (.cons (.agg (.cons (.int .u32) (.cons .bool (.cons (.int .u64) (.cons (.int .u64) (.cons (.int .u64) (.cons (.int .u64) (.cons (.int .u64) (.cons (.int .i64) (.cons (.int .i64) (.cons (.int .i64) (.cons (.int .i64) (.cons .bool (.cons (.int .i64) (.cons (.int .u64) (.cons (.int .i64) (.cons (.int .i64) (.one (.sl (.int .i64)))))))))))))))))))) (.cons (.sl (.pr (.int .u64) (.pr (.int .u32) (.pr (.int .i64) (.int .i64))))) (.cons .bool (.one (.int .i64)))))) y) := by
  refine cast (q29_tree a0 a1 a2 a3 a4 a5 a6 a7 a8 a9 a10 a11 a12 a13 a14 a15 a16 a17 a18 a19 y).symm ?_
  unfold due_End_R at h
  refine rqn_intro 5 ?_
  refine ex_both h fun y1 h => ?_
  refine rqn_intro 2 ?_
  refine br_both h (fun hb h => ?_) (fun hb h => ?_)
  · refine rqn_intro 8 ?_
    exact req_intro rfl h
  · refine rqn_intro 4 ?_
    refine br_both h (fun hb h => ?_) (fun hb h => ?_)
    · refine rqn_intro 6 ?_
      exact req_intro rfl h
    · refine rqn_intro 5 ?_
      refine br_both h (fun hb h => ?_) (fun hb h => ?_)
      · refine rqn_intro 4 ?_
        exact req_intro rfl h
      · refine rqn_intro 3 ?_
        refine br_both h (fun hb h => ?_) (fun hb h => ?_)
        · refine rqn_intro 6 ?_
          exact req_intro rfl h
        · refine rqn_intro 7 ?_
          refine br_both h (fun hb h => ?_) (fun hb h => ?_)
          · refine rqn_intro 4 ?_
            exact req_intro rfl h
          · refine rqn_intro 5 ?_
            refine ex_both h fun y2 h => ?_
            intro c3 hc3
            refine rqn_intro 10 ?_
            refine br_both h (fun hb h => ?_) (fun hb h => ?_)
            · refine rqn_intro 15 ?_
              refine br_both h (fun hb h => ?_) (fun hb h => ?_)
              · refine rqn_intro 22 ?_
                refine an_intro 3 ?_
                refine req_intro rfl ?_
                refine an_intro 2 ?_
                refine req_intro rfl ?_
                refine an_intro 1 ?_
                refine rqn_intro 4 ?_
                refine an_intro 1 ?_
                refine rqn_intro 16 ?_
                exact req_intro (band (band (band rfl (band rfl (band rfl (band rfl (band rfl (band rfl (band rfl (band rfl (band rfl (band rfl (band rfl (band rfl (band rfl (band rfl (band rfl (band rfl (Nat.beq_refl _))))))))))))))))) (band rfl (band rfl rfl))) (band (band rfl (band rfl (band rfl (band rfl (band rfl (band rfl (band rfl (band rfl (band rfl (band rfl (band rfl (band rfl (band rfl (band rfl (band rfl (band rfl rfl)))))))))))))))) (band rfl (band rfl rfl)))) h
              · refine rqn_intro 8 ?_
                refine br_both h (fun hb h => ?_) (fun hb h => ?_)
                · refine rqn_intro 5 ?_
                  obtain ⟨q, h⟩ := req_of h
                  refine req_intro (band rfl q) ?_
                  obtain ⟨q, h⟩ := req_of h
                  refine req_intro q ?_
                  refine rqn_intro 7 ?_
                  obtain ⟨q, h⟩ := req_of h
                  refine req_intro (band (band (band (band rfl rfl) (ble_same _)) (band rfl hc3)) (band rfl q)) ?_
                  refine rqn_intro 12 ?_
                  refine an_intro 3 ?_
                  refine req_intro rfl ?_
                  refine an_intro 2 ?_
                  refine req_intro rfl ?_
                  refine an_intro 1 ?_
                  refine rqn_intro 4 ?_
                  refine an_intro 1 ?_
                  refine rqn_intro 16 ?_
                  obtain ⟨q, h⟩ := req_of h
                  exact req_intro (band (band (band rfl (band rfl (band rfl (band rfl (band rfl (band rfl (band rfl (band rfl (band rfl (band rfl (band rfl (band rfl (band rfl (band rfl (band rfl (band rfl q)))))))))))))))) (band rfl (band rfl rfl))) (band (band rfl (band rfl (band rfl (band rfl (band rfl (band rfl (band rfl (band rfl (band rfl (band rfl (band rfl (band rfl (band rfl (band rfl (band rfl (band rfl rfl)))))))))))))))) (band rfl (band rfl rfl)))) h
                · refine rqn_intro 12 ?_
                  refine br_both h (fun hb h => ?_) (fun hb h => ?_)
                  · refine rqn_intro 8 ?_
                    refine an_intro 1 ?_
                    refine rqn_intro 16 ?_
                    exact req_intro (band (band (band rfl (band rfl (band rfl (band rfl (band rfl (band rfl (band rfl (band rfl (band rfl (band rfl (band rfl (band rfl (band rfl (band rfl (band rfl (band rfl (Nat.beq_refl _))))))))))))))))) (band rfl (band rfl rfl))) (band (band rfl (band rfl (band rfl (band rfl (band rfl (band rfl (band rfl (band rfl (band rfl (band rfl (band rfl (band rfl (band rfl (band rfl (band rfl (band rfl rfl)))))))))))))))) (band rfl (band rfl rfl)))) h
                  · refine rqn_intro 2 ?_
                    refine an_intro 1 ?_
                    refine rqn_intro 16 ?_
                    exact req_intro (band (band (band rfl (band rfl (band rfl (band rfl (band rfl (band rfl (band rfl (band rfl (band rfl (band rfl (band rfl (band rfl (band rfl (band rfl (band rfl (band rfl (Nat.beq_refl _))))))))))))))))) (band rfl (band rfl rfl))) (band (band rfl (band rfl (band rfl (band rfl (band rfl (band rfl (band rfl (band rfl (band rfl (band rfl (band rfl (band rfl (band rfl (band rfl (band rfl (band rfl rfl)))))))))))))))) (band rfl (band rfl rfl)))) h
            · refine rqn_intro 10 ?_
              refine br_both h (fun hb h => ?_) (fun hb h => ?_)
              · refine rqn_intro 5 ?_
                obtain ⟨q, h⟩ := req_of h
                refine req_intro (band rfl q) ?_
                obtain ⟨q, h⟩ := req_of h
                refine req_intro q ?_
                refine rqn_intro 7 ?_
                obtain ⟨q, h⟩ := req_of h
                refine req_intro (band (band (band (band rfl rfl) (ble_same _)) (band rfl hc3)) (band rfl q)) ?_
                refine rqn_intro 12 ?_
                refine an_intro 3 ?_
                refine req_intro rfl ?_
                refine an_intro 2 ?_
                refine req_intro rfl ?_
                refine an_intro 1 ?_
                refine rqn_intro 4 ?_
                refine an_intro 1 ?_
                refine rqn_intro 16 ?_
                obtain ⟨q, h⟩ := req_of h
                exact req_intro (band (band (band rfl (band rfl (band rfl (band rfl (band rfl (band rfl (band rfl (band rfl (band rfl (band rfl (band rfl (band rfl (band rfl (band rfl (band rfl (band rfl q)))))))))))))))) (band rfl (band rfl rfl))) (band (band rfl (band rfl (band rfl (band rfl (band rfl (band rfl (band rfl (band rfl (band rfl (band rfl (band rfl (band rfl (band rfl (band rfl (band rfl (band rfl rfl)))))))))))))))) (band rfl (band rfl rfl)))) h
              · refine rqn_intro 12 ?_
                refine br_both h (fun hb h => ?_) (fun hb h => ?_)
                · refine rqn_intro 8 ?_
                  refine an_intro 1 ?_
                  refine rqn_intro 16 ?_
                  exact req_intro (band (band (band rfl (band rfl (band rfl (band rfl (band rfl (band rfl (band rfl (band rfl (band rfl (band rfl (band rfl (band rfl (band rfl (band rfl (band rfl (band rfl (Nat.beq_refl _))))))))))))))))) (band rfl (band rfl rfl))) (band (band rfl (band rfl (band rfl (band rfl (band rfl (band rfl (band rfl (band rfl (band rfl (band rfl (band rfl (band rfl (band rfl (band rfl (band rfl (band rfl rfl)))))))))))))))) (band rfl (band rfl rfl)))) h
                · refine rqn_intro 2 ?_
                  refine an_intro 1 ?_
                  refine rqn_intro 16 ?_
                  exact req_intro (band (band (band rfl (band rfl (band rfl (band rfl (band rfl (band rfl (band rfl (band rfl (band rfl (band rfl (band rfl (band rfl (band rfl (band rfl (band rfl (band rfl (Nat.beq_refl _))))))))))))))))) (band rfl (band rfl rfl))) (band (band rfl (band rfl (band rfl (band rfl (band rfl (band rfl (band rfl (band rfl (band rfl (band rfl (band rfl (band rfl (band rfl (band rfl (band rfl (band rfl rfl)))))))))))))))) (band rfl (band rfl rfl)))) h
theorem due_End_ok : FxOk Tryd.prog gsT 29 (.cons (.agg (.cons (.int .u32) (.cons .bool (.cons (.int .u64) (.cons (.int .u64) (.cons (.int .u64) (.cons (.int .u64) (.cons (.int .u64) (.cons (.int .i64) (.cons (.int .i64) (.cons (.int .i64) (.cons (.int .i64) (.cons .bool (.cons (.int .i64) (.cons (.int .u64) (.cons (.int .i64) (.cons (.int .i64) (.one (.sl (.int .i64)))))))))))))))))))) (.cons (.int .u64) (.cons .bool (.one (.int .u64))))) (.tup (.cons (.agg (.cons (.int .u32) (.cons .bool (.cons (.int .u64) (.cons (.int .u64) (.cons (.int .u64) (.cons (.int .u64) (.cons (.int .u64) (.cons (.int .i64) (.cons (.int .i64) (.cons (.int .i64) (.cons (.int .i64) (.cons .bool (.cons (.int .i64) (.cons (.int .u64) (.cons (.int .i64) (.cons (.int .i64) (.one (.sl (.int .i64)))))))))))))))))))) (.cons (.sl (.pr (.int .u64) (.pr (.int .u32) (.pr (.int .i64) (.int .i64))))) (.cons .bool (.one (.int .i64)))))) fun x y => due_End_R (x.1.1) (x.1.2.1) (x.1.2.2.1) (x.1.2.2.2.1) (x.1.2.2.2.2.1) (x.1.2.2.2.2.2.1) (x.1.2.2.2.2.2.2.1) (x.1.2.2.2.2.2.2.2.1) (x.1.2.2.2.2.2.2.2.2.1) (x.1.2.2.2.2.2.2.2.2.2.1) (x.1.2.2.2.2.2.2.2.2.2.2.1) (x.1.2.2.2.2.2.2.2.2.2.2.2.1) (x.1.2.2.2.2.2.2.2.2.2.2.2.2.1) (x.1.2.2.2.2.2.2.2.2.2.2.2.2.2.1) (x.1.2.2.2.2.2.2.2.2.2.2.2.2.2.2.1) (x.1.2.2.2.2.2.2.2.2.2.2.2.2.2.2.2.1) (x.1.2.2.2.2.2.2.2.2.2.2.2.2.2.2.2.2) (x.2.1) (x.2.2.1) (x.2.2.2) y := fx_of (c := q29_cx) (ty_ok rfl) (eq_ok rfl) q29_fns follows_ok (ok := okT) (lp := lpT) (n := 60) lp_ok (enters Tryd.func29 (by kernel_rfl) rfl) (fun y => ⟨_, rfl⟩) fun x y h => q29_run _ _ _ _ _ _ _ _ _ _ _ _ _ _ _ _ _ _ _ _ y h
noncomputable def q54_cx : Cx := ⟨tyT, [(54, .body Tryd.f54),
  (88, .body Tryd.f88)], gsT, eqT⟩
theorem q54_fns : FnsOk Tryd.prog q54_cx := Fns_assoc ⟨body_ent Tryd.func54 (by kernel_rfl) (by kernel_rfl), body_ent Tryd.func88 (by kernel_rfl) (by kernel_rfl), trivial⟩
def curfewlaw13_hourly_R (y : Int × Bool × Int × Int × Int × Int × Int × Int × Int × Int × Int × Bool × Int × Int × Int × Int × List Int) : Prop :=
  ((7, (false, (1, (16777215, (4294967294, (8190, (127, (0, (1, (2, (0, (false, (3600, (0, (0, (0, [])))))))))))))))) = y)
theorem q54_tree (y : Int × Bool × Int × Int × Int × Int × Int × Int × Int × Int × Int × Bool × Int × Int × Int × Int × List Int) : acall q54_cx okT lpT 60 (.fn 54 [] []) [] [] (leafK (.agg (.cons (.int .u32) (.cons .bool (.cons (.int .u64) (.cons (.int .u64) (.cons (.int .u64) (.cons (.int .u64) (.cons (.int .u64) (.cons (.int .i64) (.cons (.int .i64) (.cons (.int .i64) (.cons (.int .i64) (.cons .bool (.cons (.int .i64) (.cons (.int .u64) (.cons (.int .i64) (.cons (.int .i64) (.one (.nw (.int .i64) 2))))))))))))))))))) y) =
    (rqn 45 (req true ((7, (false, (1, (16777215, (4294967294, (8190, (127, (0, (1, (2, (0, (false, (3600, (0, (0, (0, [])))))))))))))))) = y))) := by kernel_rfl
theorem q54_run (y : Int × Bool × Int × Int × Int × Int × Int × Int × Int × Int × Int × Bool × Int × Int × Int × Int × List Int) (h : curfewlaw13_hourly_R y) : acall q54_cx okT lpT 60 (.fn 54 [] []) [] [] (leafK (.agg (.cons (.int .u32) (.cons .bool (.cons (.int .u64) (.cons (.int .u64) (.cons (.int .u64) (.cons (.int .u64) (.cons (.int .u64) (.cons (.int .i64) (.cons (.int .i64) (.cons (.int .i64) (.cons (.int .i64) (.cons .bool (.cons (.int .i64) (.cons (.int .u64) (.cons (.int .i64) (.cons (.int .i64) (.one (.nw (.int .i64) 2))))))))))))))))))) y) := by
  refine cast (q54_tree y).symm ?_
  unfold curfewlaw13_hourly_R at h
  refine rqn_intro 45 ?_
  exact req_intro rfl h
theorem curfewlaw13_hourly_ok : FxOk Tryd.prog gsT 54 (.one .none) (.agg (.cons (.int .u32) (.cons .bool (.cons (.int .u64) (.cons (.int .u64) (.cons (.int .u64) (.cons (.int .u64) (.cons (.int .u64) (.cons (.int .i64) (.cons (.int .i64) (.cons (.int .i64) (.cons (.int .i64) (.cons .bool (.cons (.int .i64) (.cons (.int .u64) (.cons (.int .i64) (.cons (.int .i64) (.one (.nw (.int .i64) 2))))))))))))))))))) fun x y => curfewlaw13_hourly_R y := fx_of (c := q54_cx) (ty_ok rfl) (eq_ok rfl) q54_fns follows_ok (ok := okT) (lp := lpT) (n := 60) lp_ok (enters Tryd.func54 (by kernel_rfl) rfl) (fun y => ⟨_, rfl⟩) fun x y h => q54_run y h
noncomputable def q25_cx : Cx := ⟨tyT, [(25, .body Tryd.f25),
  (28, .fx (.cons (.agg (.cons (.int .u32) (.cons .bool (.cons (.int .u64) (.cons (.int .u64) (.cons (.int .u64) (.cons (.int .u64) (.cons (.int .u64) (.cons (.int .i64) (.cons (.int .i64) (.cons (.int .i64) (.cons (.int .i64) (.cons .bool (.cons (.int .i64) (.cons (.int .u64) (.cons (.int .i64) (.cons (.int .i64) (.one (.sl (.int .i64)))))))))))))))))))) (.cons (.int .i64) (.one (.int .u64)))) (.tup (.cons (.agg (.cons (.int .u32) (.cons .bool (.cons (.int .u64) (.cons (.int .u64) (.cons (.int .u64) (.cons (.int .u64) (.cons (.int .u64) (.cons (.int .i64) (.cons (.int .i64) (.cons (.int .i64) (.cons (.int .i64) (.cons .bool (.cons (.int .i64) (.cons (.int .u64) (.cons (.int .i64) (.cons (.int .i64) (.one (.nw (.int .i64) 2))))))))))))))))))) (.cons (.sl (.pr (.int .u64) (.pr (.int .u32) (.pr (.int .i64) (.int .i64))))) (.one (.int .i64))))) fun x y => due_Step_R (x.1.1) (x.1.2.1) (x.1.2.2.1) (x.1.2.2.2.1) (x.1.2.2.2.2.1) (x.1.2.2.2.2.2.1) (x.1.2.2.2.2.2.2.1) (x.1.2.2.2.2.2.2.2.1) (x.1.2.2.2.2.2.2.2.2.1) (x.1.2.2.2.2.2.2.2.2.2.1) (x.1.2.2.2.2.2.2.2.2.2.2.1) (x.1.2.2.2.2.2.2.2.2.2.2.2.1) (x.1.2.2.2.2.2.2.2.2.2.2.2.2.1) (x.1.2.2.2.2.2.2.2.2.2.2.2.2.2.1) (x.1.2.2.2.2.2.2.2.2.2.2.2.2.2.2.1) (x.1.2.2.2.2.2.2.2.2.2.2.2.2.2.2.2.1) (x.1.2.2.2.2.2.2.2.2.2.2.2.2.2.2.2.2) (x.2.1) (x.2.2) y),
  (29, .fx (.cons (.agg (.cons (.int .u32) (.cons .bool (.cons (.int .u64) (.cons (.int .u64) (.cons (.int .u64) (.cons (.int .u64) (.cons (.int .u64) (.cons (.int .i64) (.cons (.int .i64) (.cons (.int .i64) (.cons (.int .i64) (.cons .bool (.cons (.int .i64) (.cons (.int .u64) (.cons (.int .i64) (.cons (.int .i64) (.one (.sl (.int .i64)))))))))))))))))))) (.cons (.int .u64) (.cons .bool (.one (.int .u64))))) (.tup (.cons (.agg (.cons (.int .u32) (.cons .bool (.cons (.int .u64) (.cons (.int .u64) (.cons (.int .u64) (.cons (.int .u64) (.cons (.int .u64) (.cons (.int .i64) (.cons (.int .i64) (.cons (.int .i64) (.cons (.int .i64) (.cons .bool (.cons (.int .i64) (.cons (.int .u64) (.cons (.int .i64) (.cons (.int .i64) (.one (.sl (.int .i64)))))))))))))))))))) (.cons (.sl (.pr (.int .u64) (.pr (.int .u32) (.pr (.int .i64) (.int .i64))))) (.cons .bool (.one (.int .i64)))))) fun x y => due_End_R (x.1.1) (x.1.2.1) (x.1.2.2.1) (x.1.2.2.2.1) (x.1.2.2.2.2.1) (x.1.2.2.2.2.2.1) (x.1.2.2.2.2.2.2.1) (x.1.2.2.2.2.2.2.2.1) (x.1.2.2.2.2.2.2.2.2.1) (x.1.2.2.2.2.2.2.2.2.2.1) (x.1.2.2.2.2.2.2.2.2.2.2.1) (x.1.2.2.2.2.2.2.2.2.2.2.2.1) (x.1.2.2.2.2.2.2.2.2.2.2.2.2.1) (x.1.2.2.2.2.2.2.2.2.2.2.2.2.2.1) (x.1.2.2.2.2.2.2.2.2.2.2.2.2.2.2.1) (x.1.2.2.2.2.2.2.2.2.2.2.2.2.2.2.2.1) (x.1.2.2.2.2.2.2.2.2.2.2.2.2.2.2.2.2) (x.2.1) (x.2.2.1) (x.2.2.2) y),
  (54, .fx (.one .none) (.agg (.cons (.int .u32) (.cons .bool (.cons (.int .u64) (.cons (.int .u64) (.cons (.int .u64) (.cons (.int .u64) (.cons (.int .u64) (.cons (.int .i64) (.cons (.int .i64) (.cons (.int .i64) (.cons (.int .i64) (.cons .bool (.cons (.int .i64) (.cons (.int .u64) (.cons (.int .i64) (.cons (.int .i64) (.one (.nw (.int .i64) 2))))))))))))))))))) fun x y => curfewlaw13_hourly_R y)], gsT, eqT⟩
theorem q25_fns : FnsOk Tryd.prog q25_cx := Fns_assoc ⟨body_ent Tryd.func25 (by kernel_rfl) (by kernel_rfl), due_Step_ok, due_End_ok, curfewlaw13_hourly_ok, trivial⟩
def curfewlaw13_wakes_R (y : Bool) : Prop :=
  (∃ y1 : Int × Bool × Int × Int × Int × Int × Int × Int × Int × Int × Int × Bool × Int × Int × Int × Int × List Int, (curfewlaw13_hourly_R y1) ∧ (∃ y3 : (Int × Bool × Int × Int × Int × Int × Int × Int × Int × Int × Int × Bool × Int × Int × Int × Int × List Int) × (List (Int × Int × Int × Int)) × Int, (due_Step_R (y1.1) ((y1.2).1) (((y1.2).2).1) ((((y1.2).2).2).1) (((((y1.2).2).2).2).1) ((((((y1.2).2).2).2).2).1) (((((((y1.2).2).2).2).2).2).1) ((((((((y1.2).2).2).2).2).2).2).1) (((((((((y1.2).2).2).2).2).2).2).2).1) ((((((((((y1.2).2).2).2).2).2).2).2).2).1) (((((((((((y1.2).2).2).2).2).2).2).2).2).2).1) ((((((((((((y1.2).2).2).2).2).2).2).2).2).2).2).1) (((((((((((((y1.2).2).2).2).2).2).2).2).2).2).2).2).1) ((((((((((((((y1.2).2).2).2).2).2).2).2).2).2).2).2).2).1) (((((((((((((((y1.2).2).2).2).2).2).2).2).2).2).2).2).2).2).1) ((((((((((((((((y1.2).2).2).2).2).2).2).2).2).2).2).2).2).2).2).1) ((((((((((((((((y1.2).2).2).2).2).2).2).2).2).2).2).2).2).2).2).2) 18000 1 y3) ∧ (br (((y3.2).2) != 0) (false = y) (br ((((List.length ((y3.2).1)) : Nat) : Int) != 1) (false = y) (req (decide (0 < (((List.length ((y3.2).1)) : Nat) : Int))) (br (!((((List.getD ((y3.2).1) 0 (0, (0, (0, 0)))).1) == 1) && (((((List.getD ((y3.2).1) 0 (0, (0, (0, 0)))).2).1) == 7) && ((((((List.getD ((y3.2).1) 0 (0, (0, (0, 0)))).2).2).1) == 3600) && ((((((List.getD ((y3.2).1) 0 (0, (0, (0, 0)))).2).2).2) == 0) && true))))) (false = y) (br ((((List.length (((((((((((((((((y3.1).2).2).2).2).2).2).2).2).2).2).2).2).2).2).2).2)) : Nat) : Int) != 3) (false = y) (br (((((((((((((((y3.1).2).2).2).2).2).2).2).2).2).2).2).2).1) != 21600) (false = y) (∃ y5 : (Int × Bool × Int × Int × Int × Int × Int × Int × Int × Int × Int × Bool × Int × Int × Int × Int × List Int) × (List (Int × Int × Int × Int)) × Bool × Int, (due_End_R ((y3.1).1) (((y3.1).2).1) ((((y3.1).2).2).1) (((((y3.1).2).2).2).1) ((((((y3.1).2).2).2).2).1) (((((((y3.1).2).2).2).2).2).1) ((((((((y3.1).2).2).2).2).2).2).1) (((((((((y3.1).2).2).2).2).2).2).2).1) ((((((((((y3.1).2).2).2).2).2).2).2).2).1) (((((((((((y3.1).2).2).2).2).2).2).2).2).2).1) ((((((((((((y3.1).2).2).2).2).2).2).2).2).2).2).1) (((((((((((((y3.1).2).2).2).2).2).2).2).2).2).2).2).1) ((((((((((((((y3.1).2).2).2).2).2).2).2).2).2).2).2).2).1) (((((((((((((((y3.1).2).2).2).2).2).2).2).2).2).2).2).2).2).1) ((((((((((((((((y3.1).2).2).2).2).2).2).2).2).2).2).2).2).2).2).1) (((((((((((((((((y3.1).2).2).2).2).2).2).2).2).2).2).2).2).2).2).2).1) (((((((((((((((((y3.1).2).2).2).2).2).2).2).2).2).2).2).2).2).2).2).2) 1 true 2 y5) ∧ (br ((((y5.2).2).2) == 0) (br (!(((y5.2).2).1)) (br ((((List.length ((y5.2).1)) : Nat) : Int) == 1) (req (decide (0 < (((List.length ((y5.2).1)) : Nat) : Int))) (br (((((List.getD ((y5.2).1) 0 (0, (0, (0, 0)))).2).2).1) == 7200) (br ((((((((((((((((y5.1).2).2).2).2).2).2).2).2).2).2).2).2).2).1) == 2) (((((List.length (((((((((((((((((y5.1).2).2).2).2).2).2).2).2).2).2).2).2).2).2).2).2)) : Nat) : Int) == 2) = y) (false = y)) (false = y))) (false = y)) (false = y)) (false = y)))))))))))
theorem q25_tree (y : Bool) : acall q25_cx okT lpT 60 (.fn 25 [] []) [] [] (leafK .bool y) =
    (rqn 2 (∃ y1 : Int × Bool × Int × Int × Int × Int × Int × Int × Int × Int × Int × Bool × Int × Int × Int × Int × List Int, (curfewlaw13_hourly_R y1) ∧ (∀ c2 : Nat, Nat.ble (List.length ((((((((((((((((y1.2).2).2).2).2).2).2).2).2).2).2).2).2).2).2).2)) c2 = true → (req (((true && (true && (true && (true && (true && (true && (true && (true && (true && (true && (true && (true && (true && (true && (true && (true && ((Nat.beq (List.length ((((((((((((((((y1.2).2).2).2).2).2).2).2).2).2).2).2).2).2).2).2)) (List.length ((((((((((((((((y1.2).2).2).2).2).2).2).2).2).2).2).2).2).2).2).2))) && true))))))))))))))))) && (true && (true && true))) && ((true && (true && (true && (true && (true && (true && (true && (true && (true && (true && (true && (true && (true && (true && (true && (true && true)))))))))))))))) && (true && true))) (∃ y3 : (Int × Bool × Int × Int × Int × Int × Int × Int × Int × Int × Int × Bool × Int × Int × Int × Int × List Int) × (List (Int × Int × Int × Int)) × Int, (due_Step_R (y1.1) ((y1.2).1) (((y1.2).2).1) ((((y1.2).2).2).1) (((((y1.2).2).2).2).1) ((((((y1.2).2).2).2).2).1) (((((((y1.2).2).2).2).2).2).1) ((((((((y1.2).2).2).2).2).2).2).1) (((((((((y1.2).2).2).2).2).2).2).2).1) ((((((((((y1.2).2).2).2).2).2).2).2).2).1) (((((((((((y1.2).2).2).2).2).2).2).2).2).2).1) ((((((((((((y1.2).2).2).2).2).2).2).2).2).2).2).1) (((((((((((((y1.2).2).2).2).2).2).2).2).2).2).2).2).1) ((((((((((((((y1.2).2).2).2).2).2).2).2).2).2).2).2).2).1) (((((((((((((((y1.2).2).2).2).2).2).2).2).2).2).2).2).2).2).1) ((((((((((((((((y1.2).2).2).2).2).2).2).2).2).2).2).2).2).2).2).1) ((((((((((((((((y1.2).2).2).2).2).2).2).2).2).2).2).2).2).2).2).2) 18000 1 y3) ∧ (∀ c4 : Nat, Nat.ble (List.length (((((((((((((((((y3.1).2).2).2).2).2).2).2).2).2).2).2).2).2).2).2).2)) c4 = true → (rqn 9 (br (((y3.2).2) != 0) (rqn 8 (req true (false = y))) (rqn 5 (br ((((List.length ((y3.2).1)) : Nat) : Int) != 1) (rqn 6 (req true (false = y))) (req true (req (true && (decide (0 < (((List.length ((y3.2).1)) : Nat) : Int)))) (rqn 5 (br (!((((List.getD ((y3.2).1) 0 (0, (0, (0, 0)))).1) == 1) && (((((List.getD ((y3.2).1) 0 (0, (0, (0, 0)))).2).1) == 7) && ((((((List.getD ((y3.2).1) 0 (0, (0, (0, 0)))).2).2).1) == 3600) && ((((((List.getD ((y3.2).1) 0 (0, (0, (0, 0)))).2).2).2) == 0) && true))))) (rqn 4 (req true (false = y))) (rqn 6 (br ((((List.length (((((((((((((((((y3.1).2).2).2).2).2).2).2).2).2).2).2).2).2).2).2).2)) : Nat) : Int) != 3) (rqn 2 (req true (false = y))) (rqn 4 (br (((((((((((((((y3.1).2).2).2).2).2).2).2).2).2).2).2).2).1) != 21600) (req true (req true (false = y))) (req true (req (((true && (true && (true && (true && (true && (true && (true && (true && (true && (true && (true && (true && (true && (true && (true && (true && ((Nat.beq (List.length (((((((((((((((((y3.1).2).2).2).2).2).2).2).2).2).2).2).2).2).2).2).2)) (List.length (((((((((((((((((y3.1).2).2).2).2).2).2).2).2).2).2).2).2).2).2).2).2))) && true))))))))))))))))) && (true && (true && (true && true)))) && ((true && (true && (true && (true && (true && (true && (true && (true && (true && (true && (true && (true && (true && (true && (true && (true && true)))))))))))))))) && (true && (true && true)))) (∃ y5 : (Int × Bool × Int × Int × Int × Int × Int × Int × Int × Int × Int × Bool × Int × Int × Int × Int × List Int) × (List (Int × Int × Int × Int)) × Bool × Int, (due_End_R ((y3.1).1) (((y3.1).2).1) ((((y3.1).2).2).1) (((((y3.1).2).2).2).1) ((((((y3.1).2).2).2).2).1) (((((((y3.1).2).2).2).2).2).1) ((((((((y3.1).2).2).2).2).2).2).1) (((((((((y3.1).2).2).2).2).2).2).2).1) ((((((((((y3.1).2).2).2).2).2).2).2).2).1) (((((((((((y3.1).2).2).2).2).2).2).2).2).2).1) ((((((((((((y3.1).2).2).2).2).2).2).2).2).2).2).1) (((((((((((((y3.1).2).2).2).2).2).2).2).2).2).2).2).1) ((((((((((((((y3.1).2).2).2).2).2).2).2).2).2).2).2).2).1) (((((((((((((((y3.1).2).2).2).2).2).2).2).2).2).2).2).2).2).1) ((((((((((((((((y3.1).2).2).2).2).2).2).2).2).2).2).2).2).2).2).1) (((((((((((((((((y3.1).2).2).2).2).2).2).2).2).2).2).2).2).2).2).2).1) (((((((((((((((((y3.1).2).2).2).2).2).2).2).2).2).2).2).2).2).2).2).2) 1 true 2 y5) ∧ (rqn 11 (br ((((y5.2).2).2) == 0) (rqn 4 (br (!(((y5.2).2).1)) (rqn 5 (br ((((List.length ((y5.2).1)) : Nat) : Int) == 1) (req true (req (true && (decide (0 < (((List.length ((y5.2).1)) : Nat) : Int)))) (rqn 5 (br (((((List.getD ((y5.2).1) 0 (0, (0, (0, 0)))).2).2).1) == 7200) (rqn 6 (br ((((((((((((((((y5.1).2).2).2).2).2).2).2).2).2).2).2).2).2).1) == 2) (rqn 6 (req true (((((List.length (((((((((((((((((y5.1).2).2).2).2).2).2).2).2).2).2).2).2).2).2).2).2)) : Nat) : Int) == 2) = y))) (rqn 2 (req true (false = y))))) (rqn 4 (req true (false = y))))))) (rqn 6 (req true (false = y))))) (rqn 8 (req true (false = y))))) (rqn 10 (req true (false = y)))))))))))))))))))))))))) := by kernel_rfl
theorem q25_run (y : Bool) (h : curfewlaw13_wakes_R y) : acall q25_cx okT lpT 60 (.fn 25 [] []) [] [] (leafK .bool y) := by
  refine cast (q25_tree y).symm ?_
  unfold curfewlaw13_wakes_R at h
  refine rqn_intro 2 ?_
  refine ex_both h fun y1 h => ?_
  intro c2 hc2
  refine req_intro (band (band (band rfl (band rfl (band rfl (band rfl (band rfl (band rfl (band rfl (band rfl (band rfl (band rfl (band rfl (band rfl (band rfl (band rfl (band rfl (band rfl (band (Nat.beq_refl _) rfl))))))))))))))))) (band rfl (band rfl rfl))) (band (band rfl (band rfl (band rfl (band rfl (band rfl (band rfl (band rfl (band rfl (band rfl (band rfl (band rfl (band rfl (band rfl (band rfl (band rfl (band rfl rfl)))))))))))))))) (band rfl rfl))) ?_
  refine ex_both h fun y3 h => ?_
  intro c4 hc4
  refine rqn_intro 9 ?_
  refine br_both h (fun hb h => ?_) (fun hb h => ?_)
  · refine rqn_intro 8 ?_
    exact req_intro rfl h
  · refine rqn_intro 5 ?_
    refine br_both h (fun hb h => ?_) (fun hb h => ?_)
    · refine rqn_intro 6 ?_
      exact req_intro rfl h
    · refine req_intro rfl ?_
      obtain ⟨q, h⟩ := req_of h
      refine req_intro (band rfl q) ?_
      refine rqn_intro 5 ?_
      refine br_both h (fun hb h => ?_) (fun hb h => ?_)
      · refine rqn_intro 4 ?_
        exact req_intro rfl h
      · refine rqn_intro 6 ?_
        refine br_both h (fun hb h => ?_) (fun hb h => ?_)
        · refine rqn_intro 2 ?_
          exact req_intro rfl h
        · refine rqn_intro 4 ?_
          refine br_both h (fun hb h => ?_) (fun hb h => ?_)
          · refine req_intro rfl ?_
            exact req_intro rfl h
          · refine req_intro rfl ?_
            refine req_intro (band (band (band rfl (band rfl (band rfl (band rfl (band rfl (band rfl (band rfl (band rfl (band rfl (band rfl (band rfl (band rfl (band rfl (band rfl (band rfl (band rfl (band (Nat.beq_refl _) rfl))))))))))))))))) (band rfl (band rfl (band rfl rfl)))) (band (band rfl (band rfl (band rfl (band rfl (band rfl (band rfl (band rfl (band rfl (band rfl (band rfl (band rfl (band rfl (band rfl (band rfl (band rfl (band rfl rfl)))))))))))))))) (band rfl (band rfl rfl)))) ?_
            refine ex_both h fun y5 h => ?_
            refine rqn_intro 11 ?_
            refine br_both h (fun hb h => ?_) (fun hb h => ?_)
            · refine rqn_intro 4 ?_
              refine br_both h (fun hb h => ?_) (fun hb h => ?_)
              · refine rqn_intro 5 ?_
                refine br_both h (fun hb h => ?_) (fun hb h => ?_)
                · refine req_intro rfl ?_
                  obtain ⟨q, h⟩ := req_of h
                  refine req_intro (band rfl q) ?_
                  refine rqn_intro 5 ?_
                  refine br_both h (fun hb h => ?_) (fun hb h => ?_)
                  · refine rqn_intro 6 ?_
                    refine br_both h (fun hb h => ?_) (fun hb h => ?_)
                    · refine rqn_intro 6 ?_
                      exact req_intro rfl h
                    · refine rqn_intro 2 ?_
                      exact req_intro rfl h
                  · refine rqn_intro 4 ?_
                    exact req_intro rfl h
                · refine rqn_intro 6 ?_
                  exact req_intro rfl h
              · refine rqn_intro 8 ?_
                exact req_intro rfl h
            · refine rqn_intro 10 ?_
              exact req_intro rfl h
theorem curfewlaw13_wakes_ok : FxOk Tryd.prog gsT 25 (.one .none) .bool fun x y => curfewlaw13_wakes_R y := fx_of (c := q25_cx) (ty_ok rfl) (eq_ok rfl) q25_fns follows_ok (ok := okT) (lp := lpT) (n := 60) lp_ok (enters Tryd.func25 (by kernel_rfl) rfl) (fun y => ⟨_, rfl⟩) fun x y h => q25_run y h
noncomputable def q26_cx : Cx := ⟨tyT, [(26, .body Tryd.f26),
  (55, .fx (.one (.sl (.int .i64))) (.nw (.int .i64) 2) fun x y => slices_Clone__int64_int64_R x y)], gsT, eqT⟩
theorem q26_fns : FnsOk Tryd.prog q26_cx := Fns_assoc ⟨body_ent Tryd.func26 (by kernel_rfl) (by kernel_rfl), slices_Clone__int64_int64_ok, trivial⟩
def curfewlaw13_own_R (a0 : Int) (a1 : Bool) (a2 : Int) (a3 : Int) (a4 : Int) (a5 : Int) (a6 : Int) (a7 : Int) (a8 : Int) (a9 : Int) (a10 : Int) (a11 : Bool) (a12 : Int) (a13 : Int) (a14 : Int) (a15 : Int) (a16 : List Int) (y : Int × Bool × Int × Int × Int × Int × Int × Int × Int × Int × Int × Bool × Int × Int × Int × Int × List Int) : Prop :=
  (req (((decide (0 ≤ (if 5 < (((List.length a16) : Nat) : Int) then 5 else (((List.length a16) : Nat) : Int)))) && (Nat.ble (Int.toNat (if 5 < (((List.length a16) : Nat) : Int) then 5 else (((List.length a16) : Nat) : Int))) (List.length a16))) && (Nat.ble 0 (Int.toNat (if 5 < (((List.length a16) : Nat) : Int) then 5 else (((List.length a16) : Nat) : Int))))) (∃ y1 : List Int, (slices_Clone__int64_int64_R (List.take ((Int.toNat (if 5 < (((List.length a16) : Nat) : Int) then 5 else (((List.length a16) : Nat) : Int))) - 0) (List.drop 0 a16)) y1) ∧ ((a0, (a1, (a2, (a3, (a4, (a5, (a6, (a7, (a8, (a9, (a10, (a11, (a12, (a13, (a14, (a15, y1)))))))))))))))) = y)))
theorem q26_tree (a0 : Int) (a1 : Bool) (a2 : Int) (a3 : Int) (a4 : Int) (a5 : Int) (a6 : Int) (a7 : Int) (a8 : Int) (a9 : Int) (a10 : Int) (a11 : Bool) (a12 : Int) (a13 : Int) (a14 : Int) (a15 : Int) (a16 : List Int) (y : Int × Bool × Int × Int × Int × Int × Int × Int × Int × Int × Int × Bool × Int × Int × Int × Int × List Int) : acall q26_cx okT lpT 60 (.fn 26 [] []) [(V.agg [(V.int .u32 a0), (V.bool a1), (V.int .u64 a2), (V.int .u64 a3), (V.int .u64 a4), (V.int .u64 a5), (V.int .u64 a6), (V.int .i64 a7), (V.int .i64 a8), (V.int .i64 a9), (V.int .i64 a10), (V.bool a11), (V.int .i64 a12), (V.int .u64 a13), (V.int .i64 a14), (V.int .i64 a15), (V.sl (.int .i64) a16 none)])] [] (leafK (.agg (.cons (.int .u32) (.cons .bool (.cons (.int .u64) (.cons (.int .u64) (.cons (.int .u64) (.cons (.int .u64) (.cons (.int .u64) (.cons (.int .i64) (.cons (.int .i64) (.cons (.int .i64) (.cons (.int .i64) (.cons .bool (.cons (.int .i64) (.cons (.int .u64) (.cons (.int .i64) (.cons (.int .i64) (.one (.nw (.int .i64) 2))))))))))))))))))) y) =
    (rqn 6 (req ((((true && true) && (Nat.ble (List.length a16) (List.length a16))) && ((decide (0 ≤ (if 5 < (((List.length a16) : Nat) : Int) then 5 else (((List.length a16) : Nat) : Int)))) && (Nat.ble (Int.toNat (if 5 < (((List.length a16) : Nat) : Int) then 5 else (((List.length a16) : Nat) : Int))) (List.length a16)))) && (true && (Nat.ble 0 (Int.toNat (if 5 < (((List.length a16) : Nat) : Int) then 5 else (((List.length a16) : Nat) : Int)))))) (req true (∃ y1 : List Int, (slices_Clone__int64_int64_R (List.take ((Int.toNat (if 5 < (((List.length a16) : Nat) : Int) then 5 else (((List.length a16) : Nat) : Int))) - 0) (List.drop 0 a16)) y1) ∧ (∀ c2 : Nat, Nat.ble (List.length y1) c2 = true → (rqn 2 (req ((true && (true && (true && (true && (true && (true && (true && (true && (true && (true && (true && (true && (true && (true && (true && (true && true)))))))))))))))) && (true && (true && (true && (true && (true && (true && (true && (true && (true && (true && (true && (true && (true && (true && (true && (true && ((Nat.beq (List.length y1) (List.length y1)) && (Nat.beq c2 c2))))))))))))))))))) ((a0, (a1, (a2, (a3, (a4, (a5, (a6, (a7, (a8, (a9, (a10, (a11, (a12, (a13, (a14, (a15, y1)))))))))))))))) = y)))))))) := by kernel_rfl
theorem q26_run (a0 : Int) (a1 : Bool) (a2 : Int) (a3 : Int) (a4 : Int) (a5 : Int) (a6 : Int) (a7 : Int) (a8 : Int) (a9 : Int) (a10 : Int) (a11 : Bool) (a12 : Int) (a13 : Int) (a14 : Int) (a15 : Int) (a16 : List Int) (y : Int × Bool × Int × Int × Int × Int × Int × Int × Int × Int × Int × Bool × Int × Int × Int × Int × List Int) (h : curfewlaw13_own_R a0 a1 a2 a3 a4 a5 a6 a7 a8 a9 a10 a11 a12 a13 a14 a15 a16 y) : acall q26_cx okT lpT 60 (.fn 26 [] []) [(V.agg [(V.int .u32 a0), (V.bool a1), (V.int .u64 a2), (V.int .u64 a3), (V.int .u64 a4), (V.int .u64 a5), (V.int .u64 a6), (V.int .i64 a7), (V.int .i64 a8), (V.int .i64 a9), (V.int .i64 a10), (V.bool a11), (V.int .i64 a12), (V.int .u64 a13), (V.int .i64 a14), (V.int .i64 a15), (V.sl (.int .i64) a16 none)])] [] (leafK (.agg (.cons (.int .u32) (.cons .bool (.cons (.int .u64) (.cons (.int .u64) (.cons (.int .u64) (.cons (.int .u64) (.cons (.int .u64) (.cons (.int .i64) (.cons (.int .i64) (.cons (.int .i64) (.cons (.int .i64) (.cons .bool (.cons (.int .i64) (.cons (.int .u64) (.cons (.int .i64) (.cons (.int .i64) (.one (.nw (.int .i64) 2))))))))))))))))))) y) := by
  refine cast (q26_tree a0 a1 a2 a3 a4 a5 a6 a7 a8 a9 a10 a11 a12 a13 a14 a15 a16 y).symm ?_
  unfold curfewlaw13_own_R at h
  refine rqn_intro 6 ?_
  obtain ⟨q, h⟩ := req_of h
  refine req_intro (band (band (band (band rfl rfl) (ble_same _)) (band (band_l (band_l q)) (band_r (band_l q)))) (band rfl (band_r q))) ?_
  refine req_intro rfl ?_
  refine ex_both h fun y1 h => ?_
  intro c2 hc2
  refine rqn_intro 2 ?_
  exact req_intro (band (band rfl (band rfl (band rfl (band rfl (band rfl (band rfl (band rfl (band rfl (band rfl (band rfl (band rfl (band rfl (band rfl (band rfl (band rfl (band rfl rfl)))))))))))))))) (band rfl (band rfl (band rfl (band rfl (band rfl (band rfl (band rfl (band rfl (band rfl (band rfl (band rfl (band rfl (band rfl (band rfl (band rfl (band rfl (band (Nat.beq_refl _) (Nat.beq_refl _))))))))))))))))))) h
theorem curfewlaw13_own_ok : FxOk Tryd.prog gsT 26 (.one (.agg (.cons (.int .u32) (.cons .bool (.cons (.int .u64) (.cons (.int .u64) (.cons (.int .u64) (.cons (.int .u64) (.cons (.int .u64) (.cons (.int .i64) (.cons (.int .i64) (.cons (.int .i64) (.cons (.int .i64) (.cons .bool (.cons (.int .i64) (.cons (.int .u64) (.cons (.int .i64) (.cons (.int .i64) (.one (.sl (.int .i64))))))))))))))))))))) (.agg (.cons (.int .u32) (.cons .bool (.cons (.int .u64) (.cons (.int .u64) (.cons (.int .u64) (.cons (.int .u64) (.cons (.int .u64) (.cons (.int .i64) (.cons (.int .i64) (.cons (.int .i64) (.cons (.int .i64) (.cons .bool (.cons (.int .i64) (.cons (.int .u64) (.cons (.int .i64) (.cons (.int .i64) (.one (.nw (.int .i64) 2))))))))))))))))))) fun x y => curfewlaw13_own_R (x.1) (x.2.1) (x.2.2.1) (x.2.2.2.1) (x.2.2.2.2.1) (x.2.2.2.2.2.1) (x.2.2.2.2.2.2.1) (x.2.2.2.2.2.2.2.1) (x.2.2.2.2.2.2.2.2.1) (x.2.2.2.2.2.2.2.2.2.1) (x.2.2.2.2.2.2.2.2.2.2.1) (x.2.2.2.2.2.2.2.2.2.2.2.1) (x.2.2.2.2.2.2.2.2.2.2.2.2.1) (x.2.2.2.2.2.2.2.2.2.2.2.2.2.1) (x.2.2.2.2.2.2.2.2.2.2.2.2.2.2.1) (x.2.2.2.2.2.2.2.2.2.2.2.2.2.2.2.1) (x.2.2.2.2.2.2.2.2.2.2.2.2.2.2.2.2) y := fx_of (c := q26_cx) (ty_ok rfl) (eq_ok rfl) q26_fns follows_ok (ok := okT) (lp := lpT) (n := 60) lp_ok (enters Tryd.func26 (by kernel_rfl) rfl) (fun y => ⟨_, rfl⟩) fun x y h => q26_run _ _ _ _ _ _ _ _ _ _ _ _ _ _ _ _ _ y h
end Go.Proofs.YtiffoefhadgdnaaDoor
