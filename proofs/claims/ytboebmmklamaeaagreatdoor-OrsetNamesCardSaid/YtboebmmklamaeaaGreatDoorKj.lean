/-
  Sets of tags: OrsetNames, carried out in parts (printed by program).
-/
import Derived.Test.YtboebmmklamaeaaGreatDoorKi
namespace Go.CM
open Go Go.Proofs
set_option linter.unusedVariables false
set_option maxRecDepth 1000000
set_option maxHeartbeats 8000000

-- (some braid/digest.schedule): 6331
abbrev kOrsetNamesA11 : List CV := [.rsl 1 (jr (jb [99, 58, 81, 245, 220, 0, 0, 4, 0, 111, 249, 4, 0, 0, 3, 2, 1, 107, 128, 0, 0, 0, 0, 0, 0, 0, 0, 0, 0, 0, 0, 0, 0, 0, 0, 0, 0, 0, 0, 0, 0, 0, 0, 0, 0, 0, 0, 0, 0, 0, 0, 0, 0, 0, 0, 0, 0, 0, 0, 0, 0, 0, 0, 144]))]
abbrev kOrsetNamesR11 : CV := .ag ([.int .u32 (1664766453)] ++ [.int .u32 (3690987524)] ++ [.int .u32 (7338244)] ++ [.int .u32 (770)] ++ [.int .u32 (23822336)] ++ rep 10 (.int .u32 (0)) ++ [.int .u32 (144)] ++ [.int .u32 (1970505973)] ++ [.int .u32 (3534102733)] ++ [.int .u32 (3131687519)] ++ [.int .u32 (3028002027)] ++ [.int .u32 (3669360753)] ++ [.int .u32 (2797974107)] ++ [.int .u32 (3221257245)] ++ [.int .u32 (3837960139)] ++ [.int .u32 (73627884)] ++ [.int .u32 (3603923133)] ++ [.int .u32 (2280013646)] ++ [.int .u32 (187884239)] ++ [.int .u32 (2134187227)] ++ [.int .u32 (3980207204)] ++ [.int .u32 (852475161)] ++ [.int .u32 (1097001279)] ++ [.int .u32 (2133398388)] ++ [.int .u32 (1558967719)] ++ [.int .u32 (2592443949)] ++ [.int .u32 (824253310)] ++ [.int .u32 (233625828)] ++ [.int .u32 (3304687073)] ++ [.int .u32 (628396495)] ++ [.int .u32 (1562984629)] ++ [.int .u32 (3179394152)] ++ [.int .u32 (4224780473)] ++ [.int .u32 (3445718841)] ++ [.int .u32 (3166898418)] ++ [.int .u32 (1910247306)] ++ [.int .u32 (3547599832)] ++ [.int .u32 (3808577617)] ++ [.int .u32 (776911865)] ++ [.int .u32 (2690754565)] ++ [.int .u32 (3770970776)] ++ [.int .u32 (4111270022)] ++ [.int .u32 (1506003524)] ++ [.int .u32 (3158214316)] ++ [.int .u32 (51402660)] ++ [.int .u32 (413286878)] ++ [.int .u32 (3397536062)] ++ [.int .u32 (901582023)] ++ [.int .u32 (2489369603)] ++ [.int .u32 (2147001574)] ++ [.int .u32 (216061380)] ++ [.int .u32 (1796920281)] ++ [.int .u32 (2317503209)] ++ [.int .u32 (981266820)] ++ [.int .u32 (1164239823)])
theorem kOrsetNames11 : PureN Tryz.prog GS 199 kOrsetNamesA11 kOrsetNamesR11 :=
  pureN_runs Tryz.checked.mixed GS_closed (orcOf_ok (AllO.mem (allO_nil))) tbl_ok (orc := orcOf []) (fuel := 100000) (k := 60) (by kernel_rfl)

-- (some braid/digest.feed): 11761
abbrev kOrsetNamesA12 : List CV := [.ag ([.int .u32 (1779033703)] ++ [.int .u32 (3144134277)] ++ [.int .u32 (1013904242)] ++ [.int .u32 (2773480762)] ++ [.int .u32 (1359893119)] ++ [.int .u32 (2600822924)] ++ [.int .u32 (528734635)] ++ [.int .u32 (1541459225)] ++ [.rsl 1 (jr (jb [99, 58, 81, 245, 220, 0, 0, 4, 0, 111, 249, 4, 0, 0, 3, 2, 1, 107]))] ++ [ji (18)])] ++ [.rsl 1 (jr (jb [128, 0, 0, 0, 0, 0, 0, 0, 0, 0, 0, 0, 0, 0, 0, 0, 0, 0, 0, 0, 0, 0, 0, 0, 0, 0, 0, 0, 0, 0, 0, 0, 0, 0, 0, 0, 0, 0, 0, 0, 0, 0, 0, 0, 0, 144]))]
abbrev kOrsetNamesR12 : CV := .ag ([.int .u32 (1434791412)] ++ [.int .u32 (318662129)] ++ [.int .u32 (3744297610)] ++ [.int .u32 (1304180037)] ++ [.int .u32 (1595447910)] ++ [.int .u32 (650723491)] ++ [.int .u32 (1410154441)] ++ [.int .u32 (1096846502)] ++ [.rsl 1 (jr ([]))] ++ [ji (64)])
theorem kOrsetNames12 : PureN Tryz.prog GS 159 kOrsetNamesA12 kOrsetNamesR12 :=
  pureN_runs Tryz.checked.mixed GS_closed (orcOf_ok (AllO.mem (allO_cons (pickO_ok (allK_cons kOrsetNames11 (allK_nil))) (allO_nil)))) tbl_ok (orc := orcOf [(199, true, pickA [(kOrsetNamesA11, kOrsetNamesR11)])]) (fuel := 100000) (k := 60) (by kernel_rfl)

-- (some braid/digest.schedule): 6331
abbrev kOrsetNamesA17 : List CV := [.rsl 1 (jr (jb [99, 45, 4, 245, 231, 0, 0, 4, 0, 111, 249, 4, 0, 0, 1, 2, 1, 107, 128, 0, 0, 0, 0, 0, 0, 0, 0, 0, 0, 0, 0, 0, 0, 0, 0, 0, 0, 0, 0, 0, 0, 0, 0, 0, 0, 0, 0, 0, 0, 0, 0, 0, 0, 0, 0, 0, 0, 0, 0, 0, 0, 0, 0, 144]))]
abbrev kOrsetNamesR17 : CV := .ag ([.int .u32 (1663894773)] ++ [.int .u32 (3875536900)] ++ [.int .u32 (7338244)] ++ [.int .u32 (258)] ++ [.int .u32 (23822336)] ++ rep 10 (.int .u32 (0)) ++ [.int .u32 (144)] ++ [.int .u32 (2019311285)] ++ [.int .u32 (3718652109)] ++ [.int .u32 (2638380368)] ++ [.int .u32 (3027756363)] ++ [.int .u32 (1922076054)] ++ [.int .u32 (237089100)] ++ [.int .u32 (1466258377)] ++ [.int .u32 (1726500205)] ++ [.int .u32 (3777919191)] ++ [.int .u32 (3427083018)] ++ [.int .u32 (2814454903)] ++ [.int .u32 (2825370744)] ++ [.int .u32 (3250489503)] ++ [.int .u32 (2164173977)] ++ [.int .u32 (477676746)] ++ [.int .u32 (3481578222)] ++ [.int .u32 (3352933490)] ++ [.int .u32 (1934071900)] ++ [.int .u32 (2867201472)] ++ [.int .u32 (3074588708)] ++ [.int .u32 (2878188192)] ++ [.int .u32 (126208262)] ++ [.int .u32 (1281631009)] ++ [.int .u32 (3124137919)] ++ [.int .u32 (791692575)] ++ [.int .u32 (3185319662)] ++ [.int .u32 (2490203640)] ++ [.int .u32 (1712243159)] ++ [.int .u32 (1659035262)] ++ [.int .u32 (749804094)] ++ [.int .u32 (4201368076)] ++ [.int .u32 (1030824869)] ++ [.int .u32 (1925754068)] ++ [.int .u32 (3537347004)] ++ [.int .u32 (1416676737)] ++ [.int .u32 (2106665565)] ++ [.int .u32 (3512898744)] ++ [.int .u32 (4131923837)] ++ [.int .u32 (1857143651)] ++ [.int .u32 (1869330524)] ++ [.int .u32 (2840195696)] ++ [.int .u32 (2053543300)] ++ [.int .u32 (3956463744)] ++ [.int .u32 (384010548)] ++ [.int .u32 (3486936191)] ++ [.int .u32 (1163304767)] ++ [.int .u32 (1788409697)] ++ [.int .u32 (279825964)])
theorem kOrsetNames17 : PureN Tryz.prog GS 199 kOrsetNamesA17 kOrsetNamesR17 :=
  pureN_runs Tryz.checked.mixed GS_closed (orcOf_ok (AllO.mem (allO_nil))) tbl_ok (orc := orcOf []) (fuel := 100000) (k := 60) (by kernel_rfl)

-- (some braid/digest.feed): 11761
abbrev kOrsetNamesA18 : List CV := [.ag ([.int .u32 (1779033703)] ++ [.int .u32 (3144134277)] ++ [.int .u32 (1013904242)] ++ [.int .u32 (2773480762)] ++ [.int .u32 (1359893119)] ++ [.int .u32 (2600822924)] ++ [.int .u32 (528734635)] ++ [.int .u32 (1541459225)] ++ [.rsl 1 (jr (jb [99, 45, 4, 245, 231, 0, 0, 4, 0, 111, 249, 4, 0, 0, 1, 2, 1, 107]))] ++ [ji (18)])] ++ [.rsl 1 (jr (jb [128, 0, 0, 0, 0, 0, 0, 0, 0, 0, 0, 0, 0, 0, 0, 0, 0, 0, 0, 0, 0, 0, 0, 0, 0, 0, 0, 0, 0, 0, 0, 0, 0, 0, 0, 0, 0, 0, 0, 0, 0, 0, 0, 0, 0, 144]))]
abbrev kOrsetNamesR18 : CV := .ag ([.int .u32 (2644344299)] ++ [.int .u32 (3355092503)] ++ [.int .u32 (4043747096)] ++ [.int .u32 (1959544104)] ++ [.int .u32 (2905368677)] ++ [.int .u32 (2665582864)] ++ [.int .u32 (997981939)] ++ [.int .u32 (1149355090)] ++ [.rsl 1 (jr ([]))] ++ [ji (64)])
theorem kOrsetNames18 : PureN Tryz.prog GS 159 kOrsetNamesA18 kOrsetNamesR18 :=
  pureN_runs Tryz.checked.mixed GS_closed (orcOf_ok (AllO.mem (allO_cons (pickO_ok (allK_cons kOrsetNames17 (allK_nil))) (allO_nil)))) tbl_ok (orc := orcOf [(199, true, pickA [(kOrsetNamesA17, kOrsetNamesR17)])]) (fuel := 100000) (k := 60) (by kernel_rfl)

end Go.CM
