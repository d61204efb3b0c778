/- Fail at every status, of both sides: one text. -/
import Derived.Test.YtjlgdeeahcfcgaaGreatDoorCls
import Derived.Test.YtjlgdeeahcfcgaaGreatDoorFailC0
import Derived.Test.YtjlgdeeahcfcgaaGreatDoorFailC1
import Derived.Test.YtjlgdeeahcfcgaaGreatDoorFailC2
import Derived.Test.YtjlgdeeahcfcgaaGreatDoorFailC3
set_option linter.unusedVariables false
set_option linter.unusedSimpArgs false
namespace Go.Proofs.YtjlgdeeahcfcgaaGreatDoor
open Go.Exe Go.RowKit
set_option linter.unusedSectionVars false

/-- What is open at a status. -/
def opnOf (n : Int) (v8 v9 : Value) (t : Nat) : Value := match t with
  | 5 => .int .i64 n
  | 7 => .string (bs (digR n.toNat))
  | 8 => v8
  | 9 => v9
  | _ => .int .i64 0

set_option maxRecDepth 10000 in
theorem both_any (n : Int) (v8 v9 : Value) (lo : -9223372036854775808 ≤ n) (hi : n ≤ 9223372036854775807) (o8 : opnV v8 = true) (o9 : opnV v9 = true) : Both n v8 v9 := by
  letI : Opn := ⟨opnOf n v8 v9⟩
  by_cases hlo_99 : n ≤ 99
  · exact fail_cls (a := (-9223372036854775808)) (b := 99) lo hlo_99 facts_lo_99_eq (dig_any lo hi rfl (reason_out (a := (-9223372036854775808)) (b := 99) lo hlo_99 (by decide +kernel))) rfl rfl o8 o9 run_lo_99
  by_cases h100_100 : n ≤ 100
  · obtain rfl : n = 100 := by omega
    exact fail_cls (a := 100) (b := 100) (Int.le_refl _) (Int.le_refl _) facts_100_100_eq (dig_code (by decide) (by decide) rfl (by decide +kernel) (by decide +kernel)) rfl rfl o8 o9 run_100_100
  by_cases h101_101 : n ≤ 101
  · obtain rfl : n = 101 := by omega
    exact fail_cls (a := 101) (b := 101) (Int.le_refl _) (Int.le_refl _) facts_101_101_eq (dig_code (by decide) (by decide) rfl (by decide +kernel) (by decide +kernel)) rfl rfl o8 o9 run_101_101
  by_cases h102_198 : n ≤ 198
  · exact fail_cls (a := 102) (b := 198) (by omega) h102_198 facts_102_198_eq (dig_three (by omega) (by omega) rfl rfl (reason_out (a := 102) (b := 198) (by omega) h102_198 (by decide +kernel))) rfl rfl o8 o9 run_102_198
  by_cases h199_199 : n ≤ 199
  · exact fail_cls (a := 199) (b := 199) (by omega) h199_199 facts_199_199_eq (dig_three (by omega) (by omega) rfl rfl (reason_out (a := 199) (b := 199) (by omega) h199_199 (by decide +kernel))) rfl rfl o8 o9 run_199_199
  by_cases h200_200 : n ≤ 200
  · obtain rfl : n = 200 := by omega
    exact fail_cls (a := 200) (b := 200) (Int.le_refl _) (Int.le_refl _) facts_200_200_eq (dig_code (by decide) (by decide) rfl (by decide +kernel) (by decide +kernel)) rfl rfl o8 o9 run_200_200
  by_cases h201_201 : n ≤ 201
  · obtain rfl : n = 201 := by omega
    exact fail_cls (a := 201) (b := 201) (Int.le_refl _) (Int.le_refl _) facts_201_201_eq (dig_code (by decide) (by decide) rfl (by decide +kernel) (by decide +kernel)) rfl rfl o8 o9 run_201_201
  by_cases h202_202 : n ≤ 202
  · obtain rfl : n = 202 := by omega
    exact fail_cls (a := 202) (b := 202) (Int.le_refl _) (Int.le_refl _) facts_202_202_eq (dig_code (by decide) (by decide) rfl (by decide +kernel) (by decide +kernel)) rfl rfl o8 o9 run_202_202
  by_cases h203_203 : n ≤ 203
  · exact fail_cls (a := 203) (b := 203) (by omega) h203_203 facts_203_203_eq (dig_three (by omega) (by omega) rfl rfl (reason_out (a := 203) (b := 203) (by omega) h203_203 (by decide +kernel))) rfl rfl o8 o9 run_203_203
  by_cases h204_204 : n ≤ 204
  · obtain rfl : n = 204 := by omega
    exact fail_cls (a := 204) (b := 204) (Int.le_refl _) (Int.le_refl _) facts_204_204_eq (dig_code (by decide) (by decide) rfl (by decide +kernel) (by decide +kernel)) rfl rfl o8 o9 run_204_204
  by_cases h205_205 : n ≤ 205
  · exact fail_cls (a := 205) (b := 205) (by omega) h205_205 facts_205_205_eq (dig_three (by omega) (by omega) rfl rfl (reason_out (a := 205) (b := 205) (by omega) h205_205 (by decide +kernel))) rfl rfl o8 o9 run_205_205
  by_cases h206_206 : n ≤ 206
  · obtain rfl : n = 206 := by omega
    exact fail_cls (a := 206) (b := 206) (Int.le_refl _) (Int.le_refl _) facts_206_206_eq (dig_code (by decide) (by decide) rfl (by decide +kernel) (by decide +kernel)) rfl rfl o8 o9 run_206_206
  by_cases h207_300 : n ≤ 300
  · exact fail_cls (a := 207) (b := 300) (by omega) h207_300 facts_207_300_eq (dig_three (by omega) (by omega) rfl rfl (reason_out (a := 207) (b := 300) (by omega) h207_300 (by decide +kernel))) rfl rfl o8 o9 run_207_300
  by_cases h301_301 : n ≤ 301
  · obtain rfl : n = 301 := by omega
    exact fail_cls (a := 301) (b := 301) (Int.le_refl _) (Int.le_refl _) facts_301_301_eq (dig_code (by decide) (by decide) rfl (by decide +kernel) (by decide +kernel)) rfl rfl o8 o9 run_301_301
  by_cases h302_302 : n ≤ 302
  · obtain rfl : n = 302 := by omega
    exact fail_cls (a := 302) (b := 302) (Int.le_refl _) (Int.le_refl _) facts_302_302_eq (dig_code (by decide) (by decide) rfl (by decide +kernel) (by decide +kernel)) rfl rfl o8 o9 run_302_302
  by_cases h303_303 : n ≤ 303
  · obtain rfl : n = 303 := by omega
    exact fail_cls (a := 303) (b := 303) (Int.le_refl _) (Int.le_refl _) facts_303_303_eq (dig_code (by decide) (by decide) rfl (by decide +kernel) (by decide +kernel)) rfl rfl o8 o9 run_303_303
  by_cases h304_304 : n ≤ 304
  · obtain rfl : n = 304 := by omega
    exact fail_cls (a := 304) (b := 304) (Int.le_refl _) (Int.le_refl _) facts_304_304_eq (dig_code (by decide) (by decide) rfl (by decide +kernel) (by decide +kernel)) rfl rfl o8 o9 run_304_304
  by_cases h305_306 : n ≤ 306
  · exact fail_cls (a := 305) (b := 306) (by omega) h305_306 facts_305_306_eq (dig_three (by omega) (by omega) rfl rfl (reason_out (a := 305) (b := 306) (by omega) h305_306 (by decide +kernel))) rfl rfl o8 o9 run_305_306
  by_cases h307_307 : n ≤ 307
  · obtain rfl : n = 307 := by omega
    exact fail_cls (a := 307) (b := 307) (Int.le_refl _) (Int.le_refl _) facts_307_307_eq (dig_code (by decide) (by decide) rfl (by decide +kernel) (by decide +kernel)) rfl rfl o8 o9 run_307_307
  by_cases h308_308 : n ≤ 308
  · obtain rfl : n = 308 := by omega
    exact fail_cls (a := 308) (b := 308) (Int.le_refl _) (Int.le_refl _) facts_308_308_eq (dig_code (by decide) (by decide) rfl (by decide +kernel) (by decide +kernel)) rfl rfl o8 o9 run_308_308
  by_cases h309_399 : n ≤ 399
  · exact fail_cls (a := 309) (b := 399) (by omega) h309_399 facts_309_399_eq (dig_three (by omega) (by omega) rfl rfl (reason_out (a := 309) (b := 399) (by omega) h309_399 (by decide +kernel))) rfl rfl o8 o9 run_309_399
  by_cases h400_400 : n ≤ 400
  · obtain rfl : n = 400 := by omega
    exact fail_cls (a := 400) (b := 400) (Int.le_refl _) (Int.le_refl _) facts_400_400_eq (dig_code (by decide) (by decide) rfl (by decide +kernel) (by decide +kernel)) rfl rfl o8 o9 run_400_400
  by_cases h401_401 : n ≤ 401
  · obtain rfl : n = 401 := by omega
    exact fail_cls (a := 401) (b := 401) (Int.le_refl _) (Int.le_refl _) facts_401_401_eq (dig_code (by decide) (by decide) rfl (by decide +kernel) (by decide +kernel)) rfl rfl o8 o9 run_401_401
  by_cases h402_402 : n ≤ 402
  · exact fail_cls (a := 402) (b := 402) (by omega) h402_402 facts_402_402_eq (dig_three (by omega) (by omega) rfl rfl (reason_out (a := 402) (b := 402) (by omega) h402_402 (by decide +kernel))) rfl rfl o8 o9 run_402_402
  by_cases h403_403 : n ≤ 403
  · obtain rfl : n = 403 := by omega
    exact fail_cls (a := 403) (b := 403) (Int.le_refl _) (Int.le_refl _) facts_403_403_eq (dig_code (by decide) (by decide) rfl (by decide +kernel) (by decide +kernel)) rfl rfl o8 o9 run_403_403
  by_cases h404_404 : n ≤ 404
  · obtain rfl : n = 404 := by omega
    exact fail_cls (a := 404) (b := 404) (Int.le_refl _) (Int.le_refl _) facts_404_404_eq (dig_code (by decide) (by decide) rfl (by decide +kernel) (by decide +kernel)) rfl rfl o8 o9 run_404_404
  by_cases h405_405 : n ≤ 405
  · obtain rfl : n = 405 := by omega
    exact fail_cls (a := 405) (b := 405) (Int.le_refl _) (Int.le_refl _) facts_405_405_eq (dig_code (by decide) (by decide) rfl (by decide +kernel) (by decide +kernel)) rfl rfl o8 o9 run_405_405
  by_cases h406_406 : n ≤ 406
  · obtain rfl : n = 406 := by omega
    exact fail_cls (a := 406) (b := 406) (Int.le_refl _) (Int.le_refl _) facts_406_406_eq (dig_code (by decide) (by decide) rfl (by decide +kernel) (by decide +kernel)) rfl rfl o8 o9 run_406_406
  by_cases h407_407 : n ≤ 407
  · exact fail_cls (a := 407) (b := 407) (by omega) h407_407 facts_407_407_eq (dig_three (by omega) (by omega) rfl rfl (reason_out (a := 407) (b := 407) (by omega) h407_407 (by decide +kernel))) rfl rfl o8 o9 run_407_407
  by_cases h408_408 : n ≤ 408
  · obtain rfl : n = 408 := by omega
    exact fail_cls (a := 408) (b := 408) (Int.le_refl _) (Int.le_refl _) facts_408_408_eq (dig_code (by decide) (by decide) rfl (by decide +kernel) (by decide +kernel)) rfl rfl o8 o9 run_408_408
  by_cases h409_410 : n ≤ 410
  · exact fail_cls (a := 409) (b := 410) (by omega) h409_410 facts_409_410_eq (dig_three (by omega) (by omega) rfl rfl (reason_out (a := 409) (b := 410) (by omega) h409_410 (by decide +kernel))) rfl rfl o8 o9 run_409_410
  by_cases h411_411 : n ≤ 411
  · obtain rfl : n = 411 := by omega
    exact fail_cls (a := 411) (b := 411) (Int.le_refl _) (Int.le_refl _) facts_411_411_eq (dig_code (by decide) (by decide) rfl (by decide +kernel) (by decide +kernel)) rfl rfl o8 o9 run_411_411
  by_cases h412_412 : n ≤ 412
  · obtain rfl : n = 412 := by omega
    exact fail_cls (a := 412) (b := 412) (Int.le_refl _) (Int.le_refl _) facts_412_412_eq (dig_code (by decide) (by decide) rfl (by decide +kernel) (by decide +kernel)) rfl rfl o8 o9 run_412_412
  by_cases h413_413 : n ≤ 413
  · obtain rfl : n = 413 := by omega
    exact fail_cls (a := 413) (b := 413) (Int.le_refl _) (Int.le_refl _) facts_413_413_eq (dig_code (by decide) (by decide) rfl (by decide +kernel) (by decide +kernel)) rfl rfl o8 o9 run_413_413
  by_cases h414_414 : n ≤ 414
  · obtain rfl : n = 414 := by omega
    exact fail_cls (a := 414) (b := 414) (Int.le_refl _) (Int.le_refl _) facts_414_414_eq (dig_code (by decide) (by decide) rfl (by decide +kernel) (by decide +kernel)) rfl rfl o8 o9 run_414_414
  by_cases h415_415 : n ≤ 415
  · obtain rfl : n = 415 := by omega
    exact fail_cls (a := 415) (b := 415) (Int.le_refl _) (Int.le_refl _) facts_415_415_eq (dig_code (by decide) (by decide) rfl (by decide +kernel) (by decide +kernel)) rfl rfl o8 o9 run_415_415
  by_cases h416_416 : n ≤ 416
  · obtain rfl : n = 416 := by omega
    exact fail_cls (a := 416) (b := 416) (Int.le_refl _) (Int.le_refl _) facts_416_416_eq (dig_code (by decide) (by decide) rfl (by decide +kernel) (by decide +kernel)) rfl rfl o8 o9 run_416_416
  by_cases h417_417 : n ≤ 417
  · obtain rfl : n = 417 := by omega
    exact fail_cls (a := 417) (b := 417) (Int.le_refl _) (Int.le_refl _) facts_417_417_eq (dig_code (by decide) (by decide) rfl (by decide +kernel) (by decide +kernel)) rfl rfl o8 o9 run_417_417
  by_cases h418_420 : n ≤ 420
  · exact fail_cls (a := 418) (b := 420) (by omega) h418_420 facts_418_420_eq (dig_three (by omega) (by omega) rfl rfl (reason_out (a := 418) (b := 420) (by omega) h418_420 (by decide +kernel))) rfl rfl o8 o9 run_418_420
  by_cases h421_421 : n ≤ 421
  · obtain rfl : n = 421 := by omega
    exact fail_cls (a := 421) (b := 421) (Int.le_refl _) (Int.le_refl _) facts_421_421_eq (dig_code (by decide) (by decide) rfl (by decide +kernel) (by decide +kernel)) rfl rfl o8 o9 run_421_421
  by_cases h422_422 : n ≤ 422
  · obtain rfl : n = 422 := by omega
    exact fail_cls (a := 422) (b := 422) (Int.le_refl _) (Int.le_refl _) facts_422_422_eq (dig_code (by decide) (by decide) rfl (by decide +kernel) (by decide +kernel)) rfl rfl o8 o9 run_422_422
  by_cases h423_425 : n ≤ 425
  · exact fail_cls (a := 423) (b := 425) (by omega) h423_425 facts_423_425_eq (dig_three (by omega) (by omega) rfl rfl (reason_out (a := 423) (b := 425) (by omega) h423_425 (by decide +kernel))) rfl rfl o8 o9 run_423_425
  by_cases h426_426 : n ≤ 426
  · obtain rfl : n = 426 := by omega
    exact fail_cls (a := 426) (b := 426) (Int.le_refl _) (Int.le_refl _) facts_426_426_eq (dig_code (by decide) (by decide) rfl (by decide +kernel) (by decide +kernel)) rfl rfl o8 o9 run_426_426
  by_cases h427_427 : n ≤ 427
  · exact fail_cls (a := 427) (b := 427) (by omega) h427_427 facts_427_427_eq (dig_three (by omega) (by omega) rfl rfl (reason_out (a := 427) (b := 427) (by omega) h427_427 (by decide +kernel))) rfl rfl o8 o9 run_427_427
  by_cases h428_428 : n ≤ 428
  · obtain rfl : n = 428 := by omega
    exact fail_cls (a := 428) (b := 428) (Int.le_refl _) (Int.le_refl _) facts_428_428_eq (dig_code (by decide) (by decide) rfl (by decide +kernel) (by decide +kernel)) rfl rfl o8 o9 run_428_428
  by_cases h429_429 : n ≤ 429
  · obtain rfl : n = 429 := by omega
    exact fail_cls (a := 429) (b := 429) (Int.le_refl _) (Int.le_refl _) facts_429_429_eq (dig_code (by decide) (by decide) rfl (by decide +kernel) (by decide +kernel)) rfl rfl o8 o9 run_429_429
  by_cases h430_430 : n ≤ 430
  · exact fail_cls (a := 430) (b := 430) (by omega) h430_430 facts_430_430_eq (dig_three (by omega) (by omega) rfl rfl (reason_out (a := 430) (b := 430) (by omega) h430_430 (by decide +kernel))) rfl rfl o8 o9 run_430_430
  by_cases h431_431 : n ≤ 431
  · obtain rfl : n = 431 := by omega
    exact fail_cls (a := 431) (b := 431) (Int.le_refl _) (Int.le_refl _) facts_431_431_eq (dig_code (by decide) (by decide) rfl (by decide +kernel) (by decide +kernel)) rfl rfl o8 o9 run_431_431
  by_cases h432_499 : n ≤ 499
  · exact fail_cls (a := 432) (b := 499) (by omega) h432_499 facts_432_499_eq (dig_three (by omega) (by omega) rfl rfl (reason_out (a := 432) (b := 499) (by omega) h432_499 (by decide +kernel))) rfl rfl o8 o9 run_432_499
  by_cases h500_500 : n ≤ 500
  · obtain rfl : n = 500 := by omega
    exact fail_cls (a := 500) (b := 500) (Int.le_refl _) (Int.le_refl _) facts_500_500_eq (dig_code (by decide) (by decide) rfl (by decide +kernel) (by decide +kernel)) rfl rfl o8 o9 run_500_500
  by_cases h501_501 : n ≤ 501
  · obtain rfl : n = 501 := by omega
    exact fail_cls (a := 501) (b := 501) (Int.le_refl _) (Int.le_refl _) facts_501_501_eq (dig_code (by decide) (by decide) rfl (by decide +kernel) (by decide +kernel)) rfl rfl o8 o9 run_501_501
  by_cases h502_502 : n ≤ 502
  · obtain rfl : n = 502 := by omega
    exact fail_cls (a := 502) (b := 502) (Int.le_refl _) (Int.le_refl _) facts_502_502_eq (dig_code (by decide) (by decide) rfl (by decide +kernel) (by decide +kernel)) rfl rfl o8 o9 run_502_502
  by_cases h503_503 : n ≤ 503
  · obtain rfl : n = 503 := by omega
    exact fail_cls (a := 503) (b := 503) (Int.le_refl _) (Int.le_refl _) facts_503_503_eq (dig_code (by decide) (by decide) rfl (by decide +kernel) (by decide +kernel)) rfl rfl o8 o9 run_503_503
  by_cases h504_504 : n ≤ 504
  · obtain rfl : n = 504 := by omega
    exact fail_cls (a := 504) (b := 504) (Int.le_refl _) (Int.le_refl _) facts_504_504_eq (dig_code (by decide) (by decide) rfl (by decide +kernel) (by decide +kernel)) rfl rfl o8 o9 run_504_504
  by_cases h505_505 : n ≤ 505
  · obtain rfl : n = 505 := by omega
    exact fail_cls (a := 505) (b := 505) (Int.le_refl _) (Int.le_refl _) facts_505_505_eq (dig_code (by decide) (by decide) rfl (by decide +kernel) (by decide +kernel)) rfl rfl o8 o9 run_505_505
  by_cases h506_598 : n ≤ 598
  · exact fail_cls (a := 506) (b := 598) (by omega) h506_598 facts_506_598_eq (dig_three (by omega) (by omega) rfl rfl (reason_out (a := 506) (b := 598) (by omega) h506_598 (by decide +kernel))) rfl rfl o8 o9 run_506_598
  by_cases h599_599 : n ≤ 599
  · exact fail_cls (a := 599) (b := 599) (by omega) h599_599 facts_599_599_eq (dig_three (by omega) (by omega) rfl rfl (reason_out (a := 599) (b := 599) (by omega) h599_599 (by decide +kernel))) rfl rfl o8 o9 run_599_599
  exact fail_cls (a := 600) (b := 9223372036854775807) (by omega) hi facts_600_hi_eq (dig_any lo hi rfl (reason_out (a := 600) (b := 9223372036854775807) (by omega) hi (by decide +kernel))) rfl rfl o8 o9 run_600_hi
end Go.Proofs.YtjlgdeeahcfcgaaGreatDoor
