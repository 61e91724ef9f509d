/-
  The orders of the curve's and of its twist's great subgroups are primes (Lucas' certificates). Nothing of the program.
-/
import Derived.Test.YtkibgdigcgakfaaPrime
namespace Go.Proofs.Ytkibgdigcgakfaa
namespace Ed

def smallL : List Nat := [2, 3, 5, 7, 11, 13, 17, 19, 23, 31, 41, 43, 47, 61, 67, 73, 79, 101, 113, 181, 227, 269, 307, 383, 467, 487, 727]
theorem smallL_prm : ∀ q ∈ smallL, Prm q := fun q hq => prm_small (List.all_eq_true.1 (show smallL.all small = true by decide +kernel) q hq)
theorem prm_30703 : Prm 30703 ∧ ∀ a, a % 30703 ≠ 0 → a ^ (30703 - 1) % 30703 = 1 :=
  prm_cert 30703 3 [2, 3, 7, 17, 43] (by decide +kernel) (by
    intro q hq
    simp only [List.mem_cons, List.not_mem_nil, or_false] at hq
    rcases hq with rfl | rfl | rfl | rfl | rfl
    · exact smallL_prm _ (by decide)
    · exact smallL_prm _ (by decide)
    · exact smallL_prm _ (by decide)
    · exact smallL_prm _ (by decide)
    · exact smallL_prm _ (by decide))
theorem prm_41081 : Prm 41081 ∧ ∀ a, a % 41081 ≠ 0 → a ^ (41081 - 1) % 41081 = 1 :=
  prm_cert 41081 3 [2, 2, 2, 5, 13, 79] (by decide +kernel) (by
    intro q hq
    simp only [List.mem_cons, List.not_mem_nil, or_false] at hq
    rcases hq with rfl | rfl | rfl | rfl | rfl | rfl
    · exact smallL_prm _ (by decide)
    · exact smallL_prm _ (by decide)
    · exact smallL_prm _ (by decide)
    · exact smallL_prm _ (by decide)
    · exact smallL_prm _ (by decide)
    · exact smallL_prm _ (by decide))
theorem prm_82163 : Prm 82163 ∧ ∀ a, a % 82163 ≠ 0 → a ^ (82163 - 1) % 82163 = 1 :=
  prm_cert 82163 2 [2, 41081] (by decide +kernel) (by
    intro q hq
    simp only [List.mem_cons, List.not_mem_nil, or_false] at hq
    rcases hq with rfl | rfl
    · exact smallL_prm _ (by decide)
    · exact prm_41081.1)
theorem prm_1723 : Prm 1723 ∧ ∀ a, a % 1723 ≠ 0 → a ^ (1723 - 1) % 1723 = 1 :=
  prm_cert 1723 3 [2, 3, 7, 41] (by decide +kernel) (by
    intro q hq
    simp only [List.mem_cons, List.not_mem_nil, or_false] at hq
    rcases hq with rfl | rfl | rfl | rfl
    · exact smallL_prm _ (by decide)
    · exact smallL_prm _ (by decide)
    · exact smallL_prm _ (by decide)
    · exact smallL_prm _ (by decide))
theorem prm_17231 : Prm 17231 ∧ ∀ a, a % 17231 ≠ 0 → a ^ (17231 - 1) % 17231 = 1 :=
  prm_cert 17231 13 [2, 5, 1723] (by decide +kernel) (by
    intro q hq
    simp only [List.mem_cons, List.not_mem_nil, or_false] at hq
    rcases hq with rfl | rfl | rfl
    · exact smallL_prm _ (by decide)
    · exact smallL_prm _ (by decide)
    · exact prm_1723.1)
theorem prm_137849 : Prm 137849 ∧ ∀ a, a % 137849 ≠ 0 → a ^ (137849 - 1) % 137849 = 1 :=
  prm_cert 137849 3 [2, 2, 2, 17231] (by decide +kernel) (by
    intro q hq
    simp only [List.mem_cons, List.not_mem_nil, or_false] at hq
    rcases hq with rfl | rfl | rfl | rfl
    · exact smallL_prm _ (by decide)
    · exact smallL_prm _ (by decide)
    · exact smallL_prm _ (by decide)
    · exact prm_17231.1)
theorem prm_22111 : Prm 22111 ∧ ∀ a, a % 22111 ≠ 0 → a ^ (22111 - 1) % 22111 = 1 :=
  prm_cert 22111 6 [2, 3, 5, 11, 67] (by decide +kernel) (by
    intro q hq
    simp only [List.mem_cons, List.not_mem_nil, or_false] at hq
    rcases hq with rfl | rfl | rfl | rfl | rfl
    · exact smallL_prm _ (by decide)
    · exact smallL_prm _ (by decide)
    · exact smallL_prm _ (by decide)
    · exact smallL_prm _ (by decide)
    · exact smallL_prm _ (by decide))
theorem prm_132667 : Prm 132667 ∧ ∀ a, a % 132667 ≠ 0 → a ^ (132667 - 1) % 132667 = 1 :=
  prm_cert 132667 5 [2, 3, 22111] (by decide +kernel) (by
    intro q hq
    simp only [List.mem_cons, List.not_mem_nil, or_false] at hq
    rcases hq with rfl | rfl | rfl
    · exact smallL_prm _ (by decide)
    · exact smallL_prm _ (by decide)
    · exact prm_22111.1)
theorem prm_3044861653679985063343 : Prm 3044861653679985063343 ∧ ∀ a, a % 3044861653679985063343 ≠ 0 → a ^ (3044861653679985063343 - 1) % 3044861653679985063343 = 1 :=
  prm_cert 3044861653679985063343 5 [2, 3, 11, 30703, 82163, 132667, 137849] (by decide +kernel) (by
    intro q hq
    simp only [List.mem_cons, List.not_mem_nil, or_false] at hq
    rcases hq with rfl | rfl | rfl | rfl | rfl | rfl | rfl
    · exact smallL_prm _ (by decide)
    · exact smallL_prm _ (by decide)
    · exact smallL_prm _ (by decide)
    · exact prm_30703.1
    · exact prm_82163.1
    · exact prm_132667.1
    · exact prm_137849.1)
theorem prm_34123 : Prm 34123 ∧ ∀ a, a % 34123 ≠ 0 → a ^ (34123 - 1) % 34123 = 1 :=
  prm_cert 34123 2 [2, 3, 11, 11, 47] (by decide +kernel) (by
    intro q hq
    simp only [List.mem_cons, List.not_mem_nil, or_false] at hq
    rcases hq with rfl | rfl | rfl | rfl | rfl
    · exact smallL_prm _ (by decide)
    · exact smallL_prm _ (by decide)
    · exact smallL_prm _ (by decide)
    · exact smallL_prm _ (by decide)
    · exact smallL_prm _ (by decide))
theorem prm_409477 : Prm 409477 ∧ ∀ a, a % 409477 ≠ 0 → a ^ (409477 - 1) % 409477 = 1 :=
  prm_cert 409477 2 [2, 2, 3, 34123] (by decide +kernel) (by
    intro q hq
    simp only [List.mem_cons, List.not_mem_nil, or_false] at hq
    rcases hq with rfl | rfl | rfl | rfl
    · exact smallL_prm _ (by decide)
    · exact smallL_prm _ (by decide)
    · exact smallL_prm _ (by decide)
    · exact prm_34123.1)
theorem prm_14741173 : Prm 14741173 ∧ ∀ a, a % 14741173 ≠ 0 → a ^ (14741173 - 1) % 14741173 = 1 :=
  prm_cert 14741173 2 [2, 2, 3, 3, 409477] (by decide +kernel) (by
    intro q hq
    simp only [List.mem_cons, List.not_mem_nil, or_false] at hq
    rcases hq with rfl | rfl | rfl | rfl | rfl
    · exact smallL_prm _ (by decide)
    · exact smallL_prm _ (by decide)
    · exact smallL_prm _ (by decide)
    · exact smallL_prm _ (by decide)
    · exact prm_409477.1)
theorem prm_58964693 : Prm 58964693 ∧ ∀ a, a % 58964693 ≠ 0 → a ^ (58964693 - 1) % 58964693 = 1 :=
  prm_cert 58964693 2 [2, 2, 14741173] (by decide +kernel) (by
    intro q hq
    simp only [List.mem_cons, List.not_mem_nil, or_false] at hq
    rcases hq with rfl | rfl | rfl
    · exact smallL_prm _ (by decide)
    · exact smallL_prm _ (by decide)
    · exact prm_14741173.1)
theorem prm_198211423230930754013084525763697 : Prm 198211423230930754013084525763697 ∧ ∀ a, a % 198211423230930754013084525763697 ≠ 0 → a ^ (198211423230930754013084525763697 - 1) % 198211423230930754013084525763697 = 1 :=
  prm_cert 198211423230930754013084525763697 5 [2, 2, 2, 2, 3, 23, 58964693, 3044861653679985063343] (by decide +kernel) (by
    intro q hq
    simp only [List.mem_cons, List.not_mem_nil, or_false] at hq
    rcases hq with rfl | rfl | rfl | rfl | rfl | rfl | rfl | rfl
    · exact smallL_prm _ (by decide)
    · exact smallL_prm _ (by decide)
    · exact smallL_prm _ (by decide)
    · exact smallL_prm _ (by decide)
    · exact smallL_prm _ (by decide)
    · exact smallL_prm _ (by decide)
    · exact prm_58964693.1
    · exact prm_3044861653679985063343.1)
theorem prm_2939 : Prm 2939 ∧ ∀ a, a % 2939 ≠ 0 → a ^ (2939 - 1) % 2939 = 1 :=
  prm_cert 2939 2 [2, 13, 113] (by decide +kernel) (by
    intro q hq
    simp only [List.mem_cons, List.not_mem_nil, or_false] at hq
    rcases hq with rfl | rfl | rfl
    · exact smallL_prm _ (by decide)
    · exact smallL_prm _ (by decide)
    · exact smallL_prm _ (by decide))
theorem prm_5879 : Prm 5879 ∧ ∀ a, a % 5879 ≠ 0 → a ^ (5879 - 1) % 5879 = 1 :=
  prm_cert 5879 11 [2, 2939] (by decide +kernel) (by
    intro q hq
    simp only [List.mem_cons, List.not_mem_nil, or_false] at hq
    rcases hq with rfl | rfl
    · exact smallL_prm _ (by decide)
    · exact prm_2939.1)
theorem prm_292386187 : Prm 292386187 ∧ ∀ a, a % 292386187 ≠ 0 → a ^ (292386187 - 1) % 292386187 = 1 :=
  prm_cert 292386187 2 [2, 3, 3, 3, 3, 307, 5879] (by decide +kernel) (by
    intro q hq
    simp only [List.mem_cons, List.not_mem_nil, or_false] at hq
    rcases hq with rfl | rfl | rfl | rfl | rfl | rfl | rfl
    · exact smallL_prm _ (by decide)
    · exact smallL_prm _ (by decide)
    · exact smallL_prm _ (by decide)
    · exact smallL_prm _ (by decide)
    · exact smallL_prm _ (by decide)
    · exact smallL_prm _ (by decide)
    · exact prm_5879.1)
theorem prm_213441916511 : Prm 213441916511 ∧ ∀ a, a % 213441916511 ≠ 0 → a ^ (213441916511 - 1) % 213441916511 = 1 :=
  prm_cert 213441916511 13 [2, 5, 73, 292386187] (by decide +kernel) (by
    intro q hq
    simp only [List.mem_cons, List.not_mem_nil, or_false] at hq
    rcases hq with rfl | rfl | rfl | rfl
    · exact smallL_prm _ (by decide)
    · exact smallL_prm _ (by decide)
    · exact smallL_prm _ (by decide)
    · exact prm_292386187.1)
theorem prm_1361 : Prm 1361 ∧ ∀ a, a % 1361 ≠ 0 → a ^ (1361 - 1) % 1361 = 1 :=
  prm_cert 1361 3 [2, 2, 2, 2, 5, 17] (by decide +kernel) (by
    intro q hq
    simp only [List.mem_cons, List.not_mem_nil, or_false] at hq
    rcases hq with rfl | rfl | rfl | rfl | rfl | rfl
    · exact smallL_prm _ (by decide)
    · exact smallL_prm _ (by decide)
    · exact smallL_prm _ (by decide)
    · exact smallL_prm _ (by decide)
    · exact smallL_prm _ (by decide)
    · exact smallL_prm _ (by decide))
theorem prm_2851 : Prm 2851 ∧ ∀ a, a % 2851 ≠ 0 → a ^ (2851 - 1) % 2851 = 1 :=
  prm_cert 2851 2 [2, 3, 5, 5, 19] (by decide +kernel) (by
    intro q hq
    simp only [List.mem_cons, List.not_mem_nil, or_false] at hq
    rcases hq with rfl | rfl | rfl | rfl | rfl
    · exact smallL_prm _ (by decide)
    · exact smallL_prm _ (by decide)
    · exact smallL_prm _ (by decide)
    · exact smallL_prm _ (by decide)
    · exact smallL_prm _ (by decide))
theorem prm_2551 : Prm 2551 ∧ ∀ a, a % 2551 ≠ 0 → a ^ (2551 - 1) % 2551 = 1 :=
  prm_cert 2551 6 [2, 3, 5, 5, 17] (by decide +kernel) (by
    intro q hq
    simp only [List.mem_cons, List.not_mem_nil, or_false] at hq
    rcases hq with rfl | rfl | rfl | rfl | rfl
    · exact smallL_prm _ (by decide)
    · exact smallL_prm _ (by decide)
    · exact smallL_prm _ (by decide)
    · exact smallL_prm _ (by decide)
    · exact smallL_prm _ (by decide))
theorem prm_1224481 : Prm 1224481 ∧ ∀ a, a % 1224481 ≠ 0 → a ^ (1224481 - 1) % 1224481 = 1 :=
  prm_cert 1224481 13 [2, 2, 2, 2, 2, 3, 5, 2551] (by decide +kernel) (by
    intro q hq
    simp only [List.mem_cons, List.not_mem_nil, or_false] at hq
    rcases hq with rfl | rfl | rfl | rfl | rfl | rfl | rfl | rfl
    · exact smallL_prm _ (by decide)
    · exact smallL_prm _ (by decide)
    · exact smallL_prm _ (by decide)
    · exact smallL_prm _ (by decide)
    · exact smallL_prm _ (by decide)
    · exact smallL_prm _ (by decide)
    · exact smallL_prm _ (by decide)
    · exact prm_2551.1)
theorem prm_3797 : Prm 3797 ∧ ∀ a, a % 3797 ≠ 0 → a ^ (3797 - 1) % 3797 = 1 :=
  prm_cert 3797 2 [2, 2, 13, 73] (by decide +kernel) (by
    intro q hq
    simp only [List.mem_cons, List.not_mem_nil, or_false] at hq
    rcases hq with rfl | rfl | rfl | rfl
    · exact smallL_prm _ (by decide)
    · exact smallL_prm _ (by decide)
    · exact smallL_prm _ (by decide)
    · exact smallL_prm _ (by decide))
theorem prm_531581 : Prm 531581 ∧ ∀ a, a % 531581 ≠ 0 → a ^ (531581 - 1) % 531581 = 1 :=
  prm_cert 531581 2 [2, 2, 5, 7, 3797] (by decide +kernel) (by
    intro q hq
    simp only [List.mem_cons, List.not_mem_nil, or_false] at hq
    rcases hq with rfl | rfl | rfl | rfl | rfl
    · exact smallL_prm _ (by decide)
    · exact smallL_prm _ (by decide)
    · exact smallL_prm _ (by decide)
    · exact smallL_prm _ (by decide)
    · exact prm_3797.1)
theorem prm_1257559732178653 : Prm 1257559732178653 ∧ ∀ a, a % 1257559732178653 ≠ 0 → a ^ (1257559732178653 - 1) % 1257559732178653 = 1 :=
  prm_cert 1257559732178653 2 [2, 2, 3, 7, 23, 531581, 1224481] (by decide +kernel) (by
    intro q hq
    simp only [List.mem_cons, List.not_mem_nil, or_false] at hq
    rcases hq with rfl | rfl | rfl | rfl | rfl | rfl | rfl
    · exact smallL_prm _ (by decide)
    · exact smallL_prm _ (by decide)
    · exact smallL_prm _ (by decide)
    · exact smallL_prm _ (by decide)
    · exact smallL_prm _ (by decide)
    · exact prm_531581.1
    · exact prm_1224481.1)
theorem prm_4434155615661930479 : Prm 4434155615661930479 ∧ ∀ a, a % 4434155615661930479 ≠ 0 → a ^ (4434155615661930479 - 1) % 4434155615661930479 = 1 :=
  prm_cert 4434155615661930479 17 [2, 41, 43, 1257559732178653] (by decide +kernel) (by
    intro q hq
    simp only [List.mem_cons, List.not_mem_nil, or_false] at hq
    rcases hq with rfl | rfl | rfl | rfl
    · exact smallL_prm _ (by decide)
    · exact smallL_prm _ (by decide)
    · exact smallL_prm _ (by decide)
    · exact prm_1257559732178653.1)
theorem prm_172054593956031949258510691 : Prm 172054593956031949258510691 ∧ ∀ a, a % 172054593956031949258510691 ≠ 0 → a ^ (172054593956031949258510691 - 1) % 172054593956031949258510691 = 1 :=
  prm_cert 172054593956031949258510691 2 [2, 5, 1361, 2851, 4434155615661930479] (by decide +kernel) (by
    intro q hq
    simp only [List.mem_cons, List.not_mem_nil, or_false] at hq
    rcases hq with rfl | rfl | rfl | rfl | rfl
    · exact smallL_prm _ (by decide)
    · exact smallL_prm _ (by decide)
    · exact prm_1361.1
    · exact prm_2851.1
    · exact prm_4434155615661930479.1)
theorem prm_19757330305831588566944191468367130476339 : Prm 19757330305831588566944191468367130476339 ∧ ∀ a, a % 19757330305831588566944191468367130476339 ≠ 0 → a ^ (19757330305831588566944191468367130476339 - 1) % 19757330305831588566944191468367130476339 = 1 :=
  prm_cert 19757330305831588566944191468367130476339 2 [2, 269, 213441916511, 172054593956031949258510691] (by decide +kernel) (by
    intro q hq
    simp only [List.mem_cons, List.not_mem_nil, or_false] at hq
    rcases hq with rfl | rfl | rfl | rfl
    · exact smallL_prm _ (by decide)
    · exact smallL_prm _ (by decide)
    · exact prm_213441916511.1
    · exact prm_172054593956031949258510691.1)
theorem prm_276602624281642239937218680557139826668747 : Prm 276602624281642239937218680557139826668747 ∧ ∀ a, a % 276602624281642239937218680557139826668747 ≠ 0 → a ^ (276602624281642239937218680557139826668747 - 1) % 276602624281642239937218680557139826668747 = 1 :=
  prm_cert 276602624281642239937218680557139826668747 2 [2, 7, 19757330305831588566944191468367130476339] (by decide +kernel) (by
    intro q hq
    simp only [List.mem_cons, List.not_mem_nil, or_false] at hq
    rcases hq with rfl | rfl | rfl
    · exact smallL_prm _ (by decide)
    · exact smallL_prm _ (by decide)
    · exact prm_19757330305831588566944191468367130476339.1)
theorem prm_l : Prm 7237005577332262213973186563042994240857116359379907606001950938285454250989 ∧ ∀ a, a % 7237005577332262213973186563042994240857116359379907606001950938285454250989 ≠ 0 → a ^ (7237005577332262213973186563042994240857116359379907606001950938285454250989 - 1) % 7237005577332262213973186563042994240857116359379907606001950938285454250989 = 1 :=
  prm_cert 7237005577332262213973186563042994240857116359379907606001950938285454250989 2 [2, 2, 3, 11, 198211423230930754013084525763697, 276602624281642239937218680557139826668747] (by decide +kernel) (by
    intro q hq
    simp only [List.mem_cons, List.not_mem_nil, or_false] at hq
    rcases hq with rfl | rfl | rfl | rfl | rfl | rfl
    · exact smallL_prm _ (by decide)
    · exact smallL_prm _ (by decide)
    · exact smallL_prm _ (by decide)
    · exact smallL_prm _ (by decide)
    · exact prm_198211423230930754013084525763697.1
    · exact prm_276602624281642239937218680557139826668747.1)
theorem prm_3637 : Prm 3637 ∧ ∀ a, a % 3637 ≠ 0 → a ^ (3637 - 1) % 3637 = 1 :=
  prm_cert 3637 2 [2, 2, 3, 3, 101] (by decide +kernel) (by
    intro q hq
    simp only [List.mem_cons, List.not_mem_nil, or_false] at hq
    rcases hq with rfl | rfl | rfl | rfl | rfl
    · exact smallL_prm _ (by decide)
    · exact smallL_prm _ (by decide)
    · exact smallL_prm _ (by decide)
    · exact smallL_prm _ (by decide)
    · exact smallL_prm _ (by decide))
theorem prm_11351 : Prm 11351 ∧ ∀ a, a % 11351 ≠ 0 → a ^ (11351 - 1) % 11351 = 1 :=
  prm_cert 11351 7 [2, 5, 5, 227] (by decide +kernel) (by
    intro q hq
    simp only [List.mem_cons, List.not_mem_nil, or_false] at hq
    rcases hq with rfl | rfl | rfl | rfl
    · exact smallL_prm _ (by decide)
    · exact smallL_prm _ (by decide)
    · exact smallL_prm _ (by decide)
    · exact smallL_prm _ (by decide))
theorem prm_743104567 : Prm 743104567 ∧ ∀ a, a % 743104567 ≠ 0 → a ^ (743104567 - 1) % 743104567 = 1 :=
  prm_cert 743104567 6 [2, 3, 3, 3637, 11351] (by decide +kernel) (by
    intro q hq
    simp only [List.mem_cons, List.not_mem_nil, or_false] at hq
    rcases hq with rfl | rfl | rfl | rfl | rfl
    · exact smallL_prm _ (by decide)
    · exact smallL_prm _ (by decide)
    · exact smallL_prm _ (by decide)
    · exact prm_3637.1
    · exact prm_11351.1)
theorem prm_3911 : Prm 3911 ∧ ∀ a, a % 3911 ≠ 0 → a ^ (3911 - 1) % 3911 = 1 :=
  prm_cert 3911 13 [2, 5, 17, 23] (by decide +kernel) (by
    intro q hq
    simp only [List.mem_cons, List.not_mem_nil, or_false] at hq
    rcases hq with rfl | rfl | rfl | rfl
    · exact smallL_prm _ (by decide)
    · exact smallL_prm _ (by decide)
    · exact smallL_prm _ (by decide)
    · exact smallL_prm _ (by decide))
theorem prm_8053 : Prm 8053 ∧ ∀ a, a % 8053 ≠ 0 → a ^ (8053 - 1) % 8053 = 1 :=
  prm_cert 8053 2 [2, 2, 3, 11, 61] (by decide +kernel) (by
    intro q hq
    simp only [List.mem_cons, List.not_mem_nil, or_false] at hq
    rcases hq with rfl | rfl | rfl | rfl | rfl
    · exact smallL_prm _ (by decide)
    · exact smallL_prm _ (by decide)
    · exact smallL_prm _ (by decide)
    · exact smallL_prm _ (by decide)
    · exact smallL_prm _ (by decide))
theorem prm_1013266244677 : Prm 1013266244677 ∧ ∀ a, a % 1013266244677 ≠ 0 → a ^ (1013266244677 - 1) % 1013266244677 = 1 :=
  prm_cert 1013266244677 2 [2, 2, 3, 7, 383, 3911, 8053] (by decide +kernel) (by
    intro q hq
    simp only [List.mem_cons, List.not_mem_nil, or_false] at hq
    rcases hq with rfl | rfl | rfl | rfl | rfl | rfl | rfl
    · exact smallL_prm _ (by decide)
    · exact smallL_prm _ (by decide)
    · exact smallL_prm _ (by decide)
    · exact smallL_prm _ (by decide)
    · exact smallL_prm _ (by decide)
    · exact prm_3911.1
    · exact prm_8053.1)
theorem prm_727169 : Prm 727169 ∧ ∀ a, a % 727169 ≠ 0 → a ^ (727169 - 1) % 727169 = 1 :=
  prm_cert 727169 3 [2, 2, 2, 2, 2, 2, 2, 13, 19, 23] (by decide +kernel) (by
    intro q hq
    simp only [List.mem_cons, List.not_mem_nil, or_false] at hq
    rcases hq with rfl | rfl | rfl | rfl | rfl | rfl | rfl | rfl | rfl | rfl
    · exact smallL_prm _ (by decide)
    · exact smallL_prm _ (by decide)
    · exact smallL_prm _ (by decide)
    · exact smallL_prm _ (by decide)
    · exact smallL_prm _ (by decide)
    · exact smallL_prm _ (by decide)
    · exact smallL_prm _ (by decide)
    · exact smallL_prm _ (by decide)
    · exact smallL_prm _ (by decide)
    · exact smallL_prm _ (by decide))
theorem prm_2281 : Prm 2281 ∧ ∀ a, a % 2281 ≠ 0 → a ^ (2281 - 1) % 2281 = 1 :=
  prm_cert 2281 7 [2, 2, 2, 3, 5, 19] (by decide +kernel) (by
    intro q hq
    simp only [List.mem_cons, List.not_mem_nil, or_false] at hq
    rcases hq with rfl | rfl | rfl | rfl | rfl | rfl
    · exact smallL_prm _ (by decide)
    · exact smallL_prm _ (by decide)
    · exact smallL_prm _ (by decide)
    · exact smallL_prm _ (by decide)
    · exact smallL_prm _ (by decide)
    · exact smallL_prm _ (by decide))
theorem prm_28859 : Prm 28859 ∧ ∀ a, a % 28859 ≠ 0 → a ^ (28859 - 1) % 28859 = 1 :=
  prm_cert 28859 2 [2, 47, 307] (by decide +kernel) (by
    intro q hq
    simp only [List.mem_cons, List.not_mem_nil, or_false] at hq
    rcases hq with rfl | rfl | rfl
    · exact smallL_prm _ (by decide)
    · exact smallL_prm _ (by decide)
    · exact smallL_prm _ (by decide))
theorem prm_5171003929967 : Prm 5171003929967 ∧ ∀ a, a % 5171003929967 ≠ 0 → a ^ (5171003929967 - 1) % 5171003929967 = 1 :=
  prm_cert 5171003929967 5 [2, 7, 31, 181, 2281, 28859] (by decide +kernel) (by
    intro q hq
    simp only [List.mem_cons, List.not_mem_nil, or_false] at hq
    rcases hq with rfl | rfl | rfl | rfl | rfl | rfl
    · exact smallL_prm _ (by decide)
    · exact smallL_prm _ (by decide)
    · exact smallL_prm _ (by decide)
    · exact smallL_prm _ (by decide)
    · exact prm_2281.1
    · exact prm_28859.1)
theorem prm_22561162540501040539 : Prm 22561162540501040539 ∧ ∀ a, a % 22561162540501040539 ≠ 0 → a ^ (22561162540501040539 - 1) % 22561162540501040539 = 1 :=
  prm_cert 22561162540501040539 3 [2, 3, 727169, 5171003929967] (by decide +kernel) (by
    intro q hq
    simp only [List.mem_cons, List.not_mem_nil, or_false] at hq
    rcases hq with rfl | rfl | rfl | rfl
    · exact smallL_prm _ (by decide)
    · exact smallL_prm _ (by decide)
    · exact prm_727169.1
    · exact prm_5171003929967.1)
theorem prm_203852586375664218368381551393371968928013 : Prm 203852586375664218368381551393371968928013 ∧ ∀ a, a % 203852586375664218368381551393371968928013 ≠ 0 → a ^ (203852586375664218368381551393371968928013 - 1) % 203852586375664218368381551393371968928013 = 1 :=
  prm_cert 203852586375664218368381551393371968928013 2 [2, 2, 3, 743104567, 1013266244677, 22561162540501040539] (by decide +kernel) (by
    intro q hq
    simp only [List.mem_cons, List.not_mem_nil, or_false] at hq
    rcases hq with rfl | rfl | rfl | rfl | rfl | rfl
    · exact smallL_prm _ (by decide)
    · exact smallL_prm _ (by decide)
    · exact smallL_prm _ (by decide)
    · exact prm_743104567.1
    · exact prm_1013266244677.1
    · exact prm_22561162540501040539.1)
theorem prm_104719073621178708975837602950775180438320278101 : Prm 104719073621178708975837602950775180438320278101 ∧ ∀ a, a % 104719073621178708975837602950775180438320278101 ≠ 0 → a ^ (104719073621178708975837602950775180438320278101 - 1) % 104719073621178708975837602950775180438320278101 = 1 :=
  prm_cert 104719073621178708975837602950775180438320278101 2 [2, 2, 5, 5, 11, 467, 203852586375664218368381551393371968928013] (by decide +kernel) (by
    intro q hq
    simp only [List.mem_cons, List.not_mem_nil, or_false] at hq
    rcases hq with rfl | rfl | rfl | rfl | rfl | rfl | rfl
    · exact smallL_prm _ (by decide)
    · exact smallL_prm _ (by decide)
    · exact smallL_prm _ (by decide)
    · exact smallL_prm _ (by decide)
    · exact smallL_prm _ (by decide)
    · exact smallL_prm _ (by decide)
    · exact prm_203852586375664218368381551393371968928013.1)
theorem prm_4363 : Prm 4363 ∧ ∀ a, a % 4363 ≠ 0 → a ^ (4363 - 1) % 4363 = 1 :=
  prm_cert 4363 2 [2, 3, 727] (by decide +kernel) (by
    intro q hq
    simp only [List.mem_cons, List.not_mem_nil, or_false] at hq
    rcases hq with rfl | rfl | rfl
    · exact smallL_prm _ (by decide)
    · exact smallL_prm _ (by decide)
    · exact smallL_prm _ (by decide))
theorem prm_27413359092552162435694767700453926735143482401279781 : Prm 27413359092552162435694767700453926735143482401279781 ∧ ∀ a, a % 27413359092552162435694767700453926735143482401279781 ≠ 0 → a ^ (27413359092552162435694767700453926735143482401279781 - 1) % 27413359092552162435694767700453926735143482401279781 = 1 :=
  prm_cert 27413359092552162435694767700453926735143482401279781 2 [2, 2, 3, 5, 4363, 104719073621178708975837602950775180438320278101] (by decide +kernel) (by
    intro q hq
    simp only [List.mem_cons, List.not_mem_nil, or_false] at hq
    rcases hq with rfl | rfl | rfl | rfl | rfl | rfl
    · exact smallL_prm _ (by decide)
    · exact smallL_prm _ (by decide)
    · exact smallL_prm _ (by decide)
    · exact smallL_prm _ (by decide)
    · exact prm_4363.1
    · exact prm_104719073621178708975837602950775180438320278101.1)
theorem prm_2791 : Prm 2791 ∧ ∀ a, a % 2791 ≠ 0 → a ^ (2791 - 1) % 2791 = 1 :=
  prm_cert 2791 6 [2, 3, 3, 5, 31] (by decide +kernel) (by
    intro q hq
    simp only [List.mem_cons, List.not_mem_nil, or_false] at hq
    rcases hq with rfl | rfl | rfl | rfl | rfl
    · exact smallL_prm _ (by decide)
    · exact smallL_prm _ (by decide)
    · exact smallL_prm _ (by decide)
    · exact smallL_prm _ (by decide)
    · exact smallL_prm _ (by decide))
theorem prm_117223 : Prm 117223 ∧ ∀ a, a % 117223 ≠ 0 → a ^ (117223 - 1) % 117223 = 1 :=
  prm_cert 117223 3 [2, 3, 7, 2791] (by decide +kernel) (by
    intro q hq
    simp only [List.mem_cons, List.not_mem_nil, or_false] at hq
    rcases hq with rfl | rfl | rfl | rfl
    · exact smallL_prm _ (by decide)
    · exact smallL_prm _ (by decide)
    · exact smallL_prm _ (by decide)
    · exact prm_2791.1)
theorem prm_84457 : Prm 84457 ∧ ∀ a, a % 84457 ≠ 0 → a ^ (84457 - 1) % 84457 = 1 :=
  prm_cert 84457 5 [2, 2, 2, 3, 3, 3, 17, 23] (by decide +kernel) (by
    intro q hq
    simp only [List.mem_cons, List.not_mem_nil, or_false] at hq
    rcases hq with rfl | rfl | rfl | rfl | rfl | rfl | rfl | rfl
    · exact smallL_prm _ (by decide)
    · exact smallL_prm _ (by decide)
    · exact smallL_prm _ (by decide)
    · exact smallL_prm _ (by decide)
    · exact smallL_prm _ (by decide)
    · exact smallL_prm _ (by decide)
    · exact smallL_prm _ (by decide)
    · exact smallL_prm _ (by decide))
theorem prm_6418733 : Prm 6418733 ∧ ∀ a, a % 6418733 ≠ 0 → a ^ (6418733 - 1) % 6418733 = 1 :=
  prm_cert 6418733 2 [2, 2, 19, 84457] (by decide +kernel) (by
    intro q hq
    simp only [List.mem_cons, List.not_mem_nil, or_false] at hq
    rcases hq with rfl | rfl | rfl | rfl
    · exact smallL_prm _ (by decide)
    · exact smallL_prm _ (by decide)
    · exact smallL_prm _ (by decide)
    · exact prm_84457.1)
theorem prm_6263 : Prm 6263 ∧ ∀ a, a % 6263 ≠ 0 → a ^ (6263 - 1) % 6263 = 1 :=
  prm_cert 6263 5 [2, 31, 101] (by decide +kernel) (by
    intro q hq
    simp only [List.mem_cons, List.not_mem_nil, or_false] at hq
    rcases hq with rfl | rfl | rfl
    · exact smallL_prm _ (by decide)
    · exact smallL_prm _ (by decide)
    · exact smallL_prm _ (by decide))
theorem prm_12527 : Prm 12527 ∧ ∀ a, a % 12527 ≠ 0 → a ^ (12527 - 1) % 12527 = 1 :=
  prm_cert 12527 5 [2, 6263] (by decide +kernel) (by
    intro q hq
    simp only [List.mem_cons, List.not_mem_nil, or_false] at hq
    rcases hq with rfl | rfl
    · exact smallL_prm _ (by decide)
    · exact prm_6263.1)
theorem prm_1110318119 : Prm 1110318119 ∧ ∀ a, a % 1110318119 ≠ 0 → a ^ (1110318119 - 1) % 1110318119 = 1 :=
  prm_cert 1110318119 7 [2, 7, 13, 487, 12527] (by decide +kernel) (by
    intro q hq
    simp only [List.mem_cons, List.not_mem_nil, or_false] at hq
    rcases hq with rfl | rfl | rfl | rfl | rfl
    · exact smallL_prm _ (by decide)
    · exact smallL_prm _ (by decide)
    · exact smallL_prm _ (by decide)
    · exact smallL_prm _ (by decide)
    · exact prm_12527.1)
theorem prm_2220636239 : Prm 2220636239 ∧ ∀ a, a % 2220636239 ≠ 0 → a ^ (2220636239 - 1) % 2220636239 = 1 :=
  prm_cert 2220636239 23 [2, 1110318119] (by decide +kernel) (by
    intro q hq
    simp only [List.mem_cons, List.not_mem_nil, or_false] at hq
    rcases hq with rfl | rfl
    · exact smallL_prm _ (by decide)
    · exact prm_1110318119.1)
theorem prm_t : Prm 14474011154664524427946373126085988481603263447650325797860494125407373907997 ∧ ∀ a, a % 14474011154664524427946373126085988481603263447650325797860494125407373907997 ≠ 0 → a ^ (14474011154664524427946373126085988481603263447650325797860494125407373907997 - 1) % 14474011154664524427946373126085988481603263447650325797860494125407373907997 = 1 :=
  prm_cert 14474011154664524427946373126085988481603263447650325797860494125407373907997 2 [2, 2, 79, 117223, 6418733, 2220636239, 27413359092552162435694767700453926735143482401279781] (by decide +kernel) (by
    intro q hq
    simp only [List.mem_cons, List.not_mem_nil, or_false] at hq
    rcases hq with rfl | rfl | rfl | rfl | rfl | rfl | rfl
    · exact smallL_prm _ (by decide)
    · exact smallL_prm _ (by decide)
    · exact smallL_prm _ (by decide)
    · exact prm_117223.1
    · exact prm_6418733.1
    · exact prm_2220636239.1
    · exact prm_27413359092552162435694767700453926735143482401279781.1)
end Ed
end Go.Proofs.Ytkibgdigcgakfaa
