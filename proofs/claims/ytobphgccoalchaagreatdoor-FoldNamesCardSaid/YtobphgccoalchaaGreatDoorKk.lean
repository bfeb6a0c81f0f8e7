/-
  Folds: FoldNames, carried out in parts (printed by program).
-/
import Derived.Test.YtobphgccoalchaaGreatDoorKi
namespace Go.CM
open Go Go.Proofs
set_option linter.unusedVariables false
set_option maxRecDepth 1000000
set_option maxHeartbeats 8000000

-- (some braid/digest.schedule): 6331
abbrev kFoldNamesA17 : List CV := [.rsl 1 (jr (jb [99, 19, 44, 38, 76, 0, 0, 4, 0, 111, 249, 4, 0, 0, 0, 2, 1, 107, 128, 0, 0, 0, 0, 0, 0, 0, 0, 0, 0, 0, 0, 0, 0, 0, 0, 0, 0, 0, 0, 0, 0, 0, 0, 0, 0, 0, 0, 0, 0, 0, 0, 0, 0, 0, 0, 0, 0, 0, 0, 0, 0, 0, 0, 144]))]
abbrev kFoldNamesR17 : CV := .ag ([.int .u32 (1662200870)] ++ [.int .u32 (1275068420)] ++ [.int .u32 (7338244)] ++ [.int .u32 (2)] ++ [.int .u32 (23822336)] ++ rep 10 (.int .u32 (0)) ++ [.int .u32 (144)] ++ [.int .u32 (1680621350)] ++ [.int .u32 (1118183629)] ++ [.int .u32 (2631888544)] ++ [.int .u32 (3030337515)] ++ [.int .u32 (1544481327)] ++ [.int .u32 (1260751629)] ++ [.int .u32 (2823112396)] ++ [.int .u32 (3642885306)] ++ [.int .u32 (1312551240)] ++ [.int .u32 (3755732436)] ++ [.int .u32 (993912849)] ++ [.int .u32 (3883265308)] ++ [.int .u32 (2485780624)] ++ [.int .u32 (4082727163)] ++ [.int .u32 (969234141)] ++ [.int .u32 (824084994)] ++ [.int .u32 (1621512314)] ++ [.int .u32 (2604373546)] ++ [.int .u32 (1988095204)] ++ [.int .u32 (4067569708)] ++ [.int .u32 (3431806451)] ++ [.int .u32 (3238356522)] ++ [.int .u32 (93405246)] ++ [.int .u32 (3199330676)] ++ [.int .u32 (3133352755)] ++ [.int .u32 (2133641161)] ++ [.int .u32 (2095620820)] ++ [.int .u32 (1653518186)] ++ [.int .u32 (1376932787)] ++ [.int .u32 (1680344573)] ++ [.int .u32 (4243843139)] ++ [.int .u32 (1527048267)] ++ [.int .u32 (214268039)] ++ [.int .u32 (1048076464)] ++ [.int .u32 (3087045099)] ++ [.int .u32 (876239552)] ++ [.int .u32 (2680421724)] ++ [.int .u32 (1357179996)] ++ [.int .u32 (1722730175)] ++ [.int .u32 (1913260752)] ++ [.int .u32 (1639390931)] ++ [.int .u32 (187558303)] ++ [.int .u32 (2434596558)] ++ [.int .u32 (1146885796)] ++ [.int .u32 (2059675487)] ++ [.int .u32 (3068522560)] ++ [.int .u32 (2921142366)] ++ [.int .u32 (1415766720)])
theorem kFoldNames17 : PureN Tryz.prog GS 265 kFoldNamesA17 kFoldNamesR17 :=
  pureN_runs Tryz.checked.mixed GS_closed (orcOf_ok (AllO.mem (allO_nil))) tbl_ok (orc := orcOf []) (fuel := 100000) (k := 60) (by kernel_rfl)

-- (some braid/digest.feed): 11761
abbrev kFoldNamesA18 : List CV := [.ag ([.int .u32 (1779033703)] ++ [.int .u32 (3144134277)] ++ [.int .u32 (1013904242)] ++ [.int .u32 (2773480762)] ++ [.int .u32 (1359893119)] ++ [.int .u32 (2600822924)] ++ [.int .u32 (528734635)] ++ [.int .u32 (1541459225)] ++ [.rsl 1 (jr (jb [99, 19, 44, 38, 76, 0, 0, 4, 0, 111, 249, 4, 0, 0, 0, 2, 1, 107]))] ++ [ji (18)])] ++ [.rsl 1 (jr (jb [128, 0, 0, 0, 0, 0, 0, 0, 0, 0, 0, 0, 0, 0, 0, 0, 0, 0, 0, 0, 0, 0, 0, 0, 0, 0, 0, 0, 0, 0, 0, 0, 0, 0, 0, 0, 0, 0, 0, 0, 0, 0, 0, 0, 0, 144]))]
abbrev kFoldNamesR18 : CV := .ag ([.int .u32 (3116539896)] ++ [.int .u32 (1942634941)] ++ [.int .u32 (3426733510)] ++ [.int .u32 (397759706)] ++ [.int .u32 (2588416442)] ++ [.int .u32 (581961425)] ++ [.int .u32 (233464167)] ++ [.int .u32 (3190142021)] ++ [.rsl 1 (jr ([]))] ++ [ji (64)])
theorem kFoldNames18 : PureN Tryz.prog GS 239 kFoldNamesA18 kFoldNamesR18 :=
  pureN_runs Tryz.checked.mixed GS_closed (orcOf_ok (AllO.mem (allO_cons (pickO_ok (allK_cons kFoldNames17 (allK_nil))) (allO_nil)))) tbl_ok (orc := orcOf [(265, true, pickA [(kFoldNamesA17, kFoldNamesR17)])]) (fuel := 100000) (k := 60) (by kernel_rfl)

-- (some braid/digest.schedule): 6331
abbrev kFoldNamesA23 : List CV := [.rsl 1 (jr (jb [99, 29, 177, 163, 92, 0, 0, 4, 0, 111, 249, 4, 0, 0, 0, 4, 1, 107, 1, 14, 128, 0, 0, 0, 0, 0, 0, 0, 0, 0, 0, 0, 0, 0, 0, 0, 0, 0, 0, 0, 0, 0, 0, 0, 0, 0, 0, 0, 0, 0, 0, 0, 0, 0, 0, 0, 0, 0, 0, 0, 0, 0, 0, 160]))]
abbrev kFoldNamesR23 : CV := .ag ([.int .u32 (1662890403)] ++ [.int .u32 (1543503876)] ++ [.int .u32 (7338244)] ++ [.int .u32 (4)] ++ [.int .u32 (23789838)] ++ [.int .u32 (2147483648)] ++ rep 9 (.int .u32 (0)) ++ [.int .u32 (160)] ++ [.int .u32 (1716963491)] ++ [.int .u32 (1385177293)] ++ [.int .u32 (3318563671)] ++ [.int .u32 (4040678799)] ++ [.int .u32 (475761181)] ++ [.int .u32 (2504668038)] ++ [.int .u32 (3024763876)] ++ [.int .u32 (3320681251)] ++ [.int .u32 (2905865967)] ++ [.int .u32 (1100096646)] ++ [.int .u32 (1901677903)] ++ [.int .u32 (1931417231)] ++ [.int .u32 (610022490)] ++ [.int .u32 (500485133)] ++ [.int .u32 (2730808544)] ++ [.int .u32 (2766341378)] ++ [.int .u32 (829575732)] ++ [.int .u32 (2379837415)] ++ [.int .u32 (2463482920)] ++ [.int .u32 (2325009462)] ++ [.int .u32 (675855280)] ++ [.int .u32 (2045196204)] ++ [.int .u32 (3754941474)] ++ [.int .u32 (2850398917)] ++ [.int .u32 (3728811900)] ++ [.int .u32 (4245833913)] ++ [.int .u32 (2289731169)] ++ [.int .u32 (3333558252)] ++ [.int .u32 (3701788421)] ++ [.int .u32 (604256959)] ++ [.int .u32 (462750764)] ++ [.int .u32 (401032904)] ++ [.int .u32 (3597894459)] ++ [.int .u32 (2491555550)] ++ [.int .u32 (1419834038)] ++ [.int .u32 (4286637988)] ++ [.int .u32 (1300887114)] ++ [.int .u32 (2917404592)] ++ [.int .u32 (3029615958)] ++ [.int .u32 (2986996094)] ++ [.int .u32 (459670245)] ++ [.int .u32 (2348224646)] ++ [.int .u32 (2344909234)] ++ [.int .u32 (2728007374)] ++ [.int .u32 (2998798940)] ++ [.int .u32 (1014837272)] ++ [.int .u32 (3578362337)] ++ [.int .u32 (4277777319)])
theorem kFoldNames23 : PureN Tryz.prog GS 265 kFoldNamesA23 kFoldNamesR23 :=
  pureN_runs Tryz.checked.mixed GS_closed (orcOf_ok (AllO.mem (allO_nil))) tbl_ok (orc := orcOf []) (fuel := 100000) (k := 60) (by kernel_rfl)

-- (some braid/digest.feed): 11761
abbrev kFoldNamesA24 : List CV := [.ag ([.int .u32 (1779033703)] ++ [.int .u32 (3144134277)] ++ [.int .u32 (1013904242)] ++ [.int .u32 (2773480762)] ++ [.int .u32 (1359893119)] ++ [.int .u32 (2600822924)] ++ [.int .u32 (528734635)] ++ [.int .u32 (1541459225)] ++ [.rsl 1 (jr (jb [99, 29, 177, 163, 92, 0, 0, 4, 0, 111, 249, 4, 0, 0, 0, 4, 1, 107, 1, 14]))] ++ [ji (20)])] ++ [.rsl 1 (jr (jb [128, 0, 0, 0, 0, 0, 0, 0, 0, 0, 0, 0, 0, 0, 0, 0, 0, 0, 0, 0, 0, 0, 0, 0, 0, 0, 0, 0, 0, 0, 0, 0, 0, 0, 0, 0, 0, 0, 0, 0, 0, 0, 0, 160]))]
abbrev kFoldNamesR24 : CV := .ag ([.int .u32 (3414873825)] ++ [.int .u32 (404399495)] ++ [.int .u32 (60770367)] ++ [.int .u32 (3590645895)] ++ [.int .u32 (385603246)] ++ [.int .u32 (609591663)] ++ [.int .u32 (1702940833)] ++ [.int .u32 (1551542155)] ++ [.rsl 1 (jr ([]))] ++ [ji (64)])
theorem kFoldNames24 : PureN Tryz.prog GS 239 kFoldNamesA24 kFoldNamesR24 :=
  pureN_runs Tryz.checked.mixed GS_closed (orcOf_ok (AllO.mem (allO_cons (pickO_ok (allK_cons kFoldNames23 (allK_nil))) (allO_nil)))) tbl_ok (orc := orcOf [(265, true, pickA [(kFoldNamesA23, kFoldNamesR23)])]) (fuel := 100000) (k := 60) (by kernel_rfl)

end Go.CM
