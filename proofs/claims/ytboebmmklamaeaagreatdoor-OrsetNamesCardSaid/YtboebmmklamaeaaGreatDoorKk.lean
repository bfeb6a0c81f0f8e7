/-
  Sets of tags: OrsetNames, carried out in parts (printed by program).
-/
import Derived.Test.YtboebmmklamaeaaGreatDoorKi
namespace Go.CM
open Go Go.Proofs
set_option linter.unusedVariables false
set_option maxRecDepth 1000000
set_option maxHeartbeats 8000000

-- (some braid/group.pow): 4001
abbrev kOrsetNamesA0 : List CV := [.int .u32 (1024)] ++ [.int .u64 (500000003)]
abbrev kOrsetNamesR0 : CV := .int .u32 (1)
theorem kOrsetNames0 : PureN Tryz.prog GS 183 kOrsetNamesA0 kOrsetNamesR0 :=
  pureN_runs Tryz.checked.mixed GS_closed (orcOf_ok (AllO.mem (allO_nil))) tbl_ok (orc := orcOf []) (fuel := 100000) (k := 60) (by kernel_rfl)

-- (some braid/group.pow): 3841
abbrev kOrsetNamesA7 : List CV := [.int .u32 (1024)] ++ [.int .u64 (33968846)]
abbrev kOrsetNamesR7 : CV := .int .u32 (281333561)
theorem kOrsetNames7 : PureN Tryz.prog GS 183 kOrsetNamesA7 kOrsetNamesR7 :=
  pureN_runs Tryz.checked.mixed GS_closed (orcOf_ok (AllO.mem (allO_nil))) tbl_ok (orc := orcOf []) (fuel := 100000) (k := 60) (by kernel_rfl)

-- (some braid/group.pow): 3921
abbrev kOrsetNamesA8 : List CV := [.int .u32 (4)] ++ [.int .u64 (154584838)]
abbrev kOrsetNamesR8 : CV := .int .u32 (820821031)
theorem kOrsetNames8 : PureN Tryz.prog GS 183 kOrsetNamesA8 kOrsetNamesR8 :=
  pureN_runs Tryz.checked.mixed GS_closed (orcOf_ok (AllO.mem (allO_nil))) tbl_ok (orc := orcOf []) (fuel := 100000) (k := 60) (by kernel_rfl)

-- (some braid/group.pow): 4001
abbrev kOrsetNamesA9 : List CV := [.int .u32 (820821031)] ++ [.int .u64 (500000003)]
abbrev kOrsetNamesR9 : CV := .int .u32 (1)
theorem kOrsetNames9 : PureN Tryz.prog GS 183 kOrsetNamesA9 kOrsetNamesR9 :=
  pureN_runs Tryz.checked.mixed GS_closed (orcOf_ok (AllO.mem (allO_nil))) tbl_ok (orc := orcOf []) (fuel := 100000) (k := 60) (by kernel_rfl)

-- (some braid/group.pow): 4001
abbrev kOrsetNamesA10 : List CV := [.int .u32 (281333561)] ++ [.int .u64 (500000003)]
abbrev kOrsetNamesR10 : CV := .int .u32 (1)
theorem kOrsetNames10 : PureN Tryz.prog GS 183 kOrsetNamesA10 kOrsetNamesR10 :=
  pureN_runs Tryz.checked.mixed GS_closed (orcOf_ok (AllO.mem (allO_nil))) tbl_ok (orc := orcOf []) (fuel := 100000) (k := 60) (by kernel_rfl)

-- (some braid/group.pow): 4001
abbrev kOrsetNamesA13 : List CV := [.int .u32 (1024)] ++ [.int .u64 (220095307)]
abbrev kOrsetNamesR13 : CV := .int .u32 (794969931)
theorem kOrsetNames13 : PureN Tryz.prog GS 183 kOrsetNamesA13 kOrsetNamesR13 :=
  pureN_runs Tryz.checked.mixed GS_closed (orcOf_ok (AllO.mem (allO_nil))) tbl_ok (orc := orcOf []) (fuel := 100000) (k := 60) (by kernel_rfl)

-- (some braid/group.pow): 3961
abbrev kOrsetNamesA14 : List CV := [.int .u32 (4)] ++ [.int .u64 (405231647)]
abbrev kOrsetNamesR14 : CV := .int .u32 (894584839)
theorem kOrsetNames14 : PureN Tryz.prog GS 183 kOrsetNamesA14 kOrsetNamesR14 :=
  pureN_runs Tryz.checked.mixed GS_closed (orcOf_ok (AllO.mem (allO_nil))) tbl_ok (orc := orcOf []) (fuel := 100000) (k := 60) (by kernel_rfl)

-- (some braid/digest.schedule): 6331
abbrev kOrsetNamesA23 : List CV := [.rsl 1 (jr (jb [99, 47, 132, 35, 87, 0, 0, 4, 0, 111, 249, 4, 0, 1, 229, 124, 185, 107, 70, 231, 131, 233, 115, 130, 99, 242, 254, 26, 152, 21, 36, 103, 69, 47, 253, 120, 128, 100, 162, 223, 201, 56, 16, 173, 61, 62, 2, 3, 1, 107, 128, 0, 0, 0, 0, 0, 0, 0, 0, 0, 0, 0, 1, 144]))]
abbrev kOrsetNamesR23 : CV := .ag ([.int .u32 (1664058403)] ++ [.int .u32 (1459617796)] ++ [.int .u32 (7338244)] ++ [.int .u32 (124284)] ++ [.int .u32 (3110815463)] ++ [.int .u32 (2213114754)] ++ [.int .u32 (1676869146)] ++ [.int .u32 (2551522407)] ++ [.int .u32 (1160772984)] ++ [.int .u32 (2154078943)] ++ [.int .u32 (3375894701)] ++ [.int .u32 (1027473923)] ++ [.int .u32 (23822336)] ++ [.int .u32 (0)] ++ [.int .u32 (0)] ++ [.int .u32 (400)] ++ [.int .u32 (3856874690)] ++ [.int .u32 (394146170)] ++ [.int .u32 (3100479726)] ++ [.int .u32 (3924511843)] ++ [.int .u32 (2102025071)] ++ [.int .u32 (3669002592)] ++ [.int .u32 (1608739845)] ++ [.int .u32 (3675581555)] ++ [.int .u32 (3221219535)] ++ [.int .u32 (1800505370)] ++ [.int .u32 (1037215765)] ++ [.int .u32 (2412556652)] ++ [.int .u32 (3710080857)] ++ [.int .u32 (781947192)] ++ [.int .u32 (3169421956)] ++ [.int .u32 (3505895282)] ++ [.int .u32 (3222435833)] ++ [.int .u32 (822571046)] ++ [.int .u32 (3351536734)] ++ [.int .u32 (1689404356)] ++ [.int .u32 (1664515388)] ++ [.int .u32 (3680543459)] ++ [.int .u32 (3921991276)] ++ [.int .u32 (1391894679)] ++ [.int .u32 (1048771243)] ++ [.int .u32 (1059629611)] ++ [.int .u32 (2840686788)] ++ [.int .u32 (2972367888)] ++ [.int .u32 (3767852733)] ++ [.int .u32 (2655795522)] ++ [.int .u32 (385172039)] ++ [.int .u32 (564485138)] ++ [.int .u32 (2666881981)] ++ [.int .u32 (2621232205)] ++ [.int .u32 (2871793725)] ++ [.int .u32 (566186173)] ++ [.int .u32 (2232976948)] ++ [.int .u32 (638019958)] ++ [.int .u32 (3964056698)] ++ [.int .u32 (982511469)] ++ [.int .u32 (3797587161)] ++ [.int .u32 (3035890434)] ++ [.int .u32 (2082687988)] ++ [.int .u32 (143408759)] ++ [.int .u32 (1809693251)] ++ [.int .u32 (4293704581)] ++ [.int .u32 (862702338)] ++ [.int .u32 (4271492381)])
theorem kOrsetNames23 : PureN Tryz.prog GS 199 kOrsetNamesA23 kOrsetNamesR23 :=
  pureN_runs Tryz.checked.mixed GS_closed (orcOf_ok (AllO.mem (allO_nil))) tbl_ok (orc := orcOf []) (fuel := 100000) (k := 60) (by kernel_rfl)

-- (some braid/digest.feed): 11761
abbrev kOrsetNamesA24 : List CV := [.ag ([.int .u32 (1779033703)] ++ [.int .u32 (3144134277)] ++ [.int .u32 (1013904242)] ++ [.int .u32 (2773480762)] ++ [.int .u32 (1359893119)] ++ [.int .u32 (2600822924)] ++ [.int .u32 (528734635)] ++ [.int .u32 (1541459225)] ++ [.rsl 1 (jr (jb [99, 47, 132, 35, 87, 0, 0, 4, 0, 111, 249, 4, 0, 1, 229, 124, 185, 107, 70, 231, 131, 233, 115, 130, 99, 242, 254, 26, 152, 21, 36, 103, 69, 47, 253, 120, 128, 100, 162, 223, 201, 56, 16, 173, 61, 62, 2, 3, 1, 107]))] ++ [ji (50)])] ++ [.rsl 1 (jr (jb [128, 0, 0, 0, 0, 0, 0, 0, 0, 0, 0, 0, 1, 144]))]
abbrev kOrsetNamesR24 : CV := .ag ([.int .u32 (3189832951)] ++ [.int .u32 (176151961)] ++ [.int .u32 (2103212526)] ++ [.int .u32 (3039765471)] ++ [.int .u32 (791180767)] ++ [.int .u32 (1388370654)] ++ [.int .u32 (1318710965)] ++ [.int .u32 (3869864611)] ++ [.rsl 1 (jr ([]))] ++ [ji (64)])
theorem kOrsetNames24 : PureN Tryz.prog GS 159 kOrsetNamesA24 kOrsetNamesR24 :=
  pureN_runs Tryz.checked.mixed GS_closed (orcOf_ok (AllO.mem (allO_cons (pickO_ok (allK_cons kOrsetNames23 (allK_nil))) (allO_nil)))) tbl_ok (orc := orcOf [(199, true, pickA [(kOrsetNamesA23, kOrsetNamesR23)])]) (fuel := 100000) (k := 60) (by kernel_rfl)

end Go.CM
