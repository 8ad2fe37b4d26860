/- Parts: PrioFnsB, PrioFnsC, SeatNum, PrioA, PrioB, PrioC, PrioD, PrioE, PrioG, PrioH, PrioI, PrioS, SeatLib, PrioJ. -/
import Derived.Test.YtopnfbffcggnmaaDoorM3
import Derived.Test.YtopnfbffcggnmaaDoorChecked
import Derived.KernelRfl
import Derived.Lib.Bytealg
import Derived.Lib.IndexMore
import Derived.Lib.SlTrimSet
import Derived.Lib.ItoaNum
import Derived.Lib.Join
import Derived.Lib.Split
import Derived.Lib.SplitLaws
import Derived.Test.YtopnfbffcggnmaaDoorShelf
import Derived.Shelf.Strings.SlTrimAscii
import Derived.MapKept
namespace Go.Cs
def f_footmanlaw38_PrioBack_p5 : RC :=
  (.seq (.region [⟨(some 110), (.mov (.t 16)), none, []⟩, ⟨(some 111), (.call 22 [(.t 110)]), none, []⟩, ⟨(some 109), (.mov (.t 111)), none, []⟩, ⟨(some 112), (.ext 0 (.t 109)), none, []⟩, ⟨(some 113), (.ext 1 (.t 109)), none, []⟩, ⟨(some 19), (.alloc [(.int .i64 0), (.bool false)]), none, []⟩, ⟨none, (.store 2 (.t 19) (.t 112)), none, []⟩, ⟨(some 20), (.mov (.t 113)), none, []⟩] false (some [7, 17, 18, 19, 20])) (.seq (.seq (.region [⟨(some 114), (.mov (.t 18)), none, []⟩, ⟨(some 115), (.bin .neq (.t 114) (.c (.int .i64 0))), none, []⟩, ⟨(some 116), (.mov (.t 115)), none, []⟩, ⟨(some 117), (.mov (.t 17)), (some (116, false)), []⟩, ⟨(some 118), (.len (.t 117)), (some (116, false)), []⟩, ⟨(some 119), (.bin .neq (.t 118) (.c (.int .i64 1))), (some (116, false)), []⟩, ⟨(some 120), (.pick (.t 116) (.c (.bool true)) (.t 119)), none, []⟩] false (some [7, 19, 20, 120])) (.cond (.t 120) (.seq (.region [⟨(some 121), (.call 8 []), none, []⟩, ⟨(some 6), (.mov (.t 121)), none, []⟩] false (some [6])) .ret) .skip)) (.seq (.region [⟨(some 122), (.mov (.t 20)), none, []⟩, ⟨(some 123), (.bin .eql (.t 122) (.c (.int .i64 0))), none, []⟩, ⟨(some 124), (.mov (.t 123)), none, []⟩, ⟨(some 125), (.load true 2 (.t 19)), (some (124, true)), []⟩, ⟨(some 126), (.load true 2 (.t 7)), (some (124, true)), []⟩, ⟨(some 127), (.eq false (.agg [0, 2]) (.t 125) (.t 126)), (some (124, true)), []⟩, ⟨(some 128), (.pick (.t 124) (.t 127) (.c (.bool false))), none, []⟩, ⟨(some 129), (.mov (.t 128)), none, []⟩, ⟨(some 130), (.call 8 []), (some (129, true)), []⟩, ⟨(some 131), (.pick (.t 129) (.t 130) (.c (.bool false))), none, []⟩, ⟨(some 6), (.mov (.t 131)), none, []⟩] false (some [6])) .ret)))
def f_footmanlaw38_PrioBack_p4b : RC :=
  (.seq (.region [⟨(some 104), (.mov (.t 2)), none, []⟩, ⟨(some 105), (.bin .add (.c (.str [120])) (.t 104)), none, []⟩, ⟨(some 106), (.call 24 [(.t 105)]), none, []⟩, ⟨(some 103), (.mov (.t 106)), none, []⟩, ⟨(some 107), (.ext 0 (.t 103)), none, []⟩, ⟨(some 108), (.ext 1 (.t 103)), none, []⟩, ⟨(some 17), (.mov (.t 107)), none, []⟩, ⟨(some 18), (.mov (.t 108)), none, []⟩] false (some [7, 16, 17, 18])) f_footmanlaw38_PrioBack_p5)
def f_footmanlaw38_PrioBack_p4 : RC :=
  (.seq (.region [⟨(some 95), (.mov (.t 2)), none, []⟩, ⟨(some 96), (.bin .add (.c (.str [120])) (.t 95)), none, []⟩, ⟨(some 16), (.mov (.t 96)), none, []⟩] false (some [2, 7, 9, 16])) (.seq (.seq (.region [⟨(some 97), (.mov (.t 9)), none, []⟩, ⟨(some 98), (.bin .neq (.t 97) (.c (.str []))), none, []⟩] false (some [2, 7, 9, 16, 98])) (.cond (.t 98) (.region [⟨(some 99), (.mov (.t 9)), none, []⟩, ⟨(some 100), (.bin .add (.t 99) (.c (.str [44, 120]))), none, []⟩, ⟨(some 101), (.mov (.t 2)), none, []⟩, ⟨(some 102), (.bin .add (.t 100) (.t 101)), none, []⟩, ⟨(some 16), (.mov (.t 102)), none, []⟩] false (some [2, 7, 16])) .skip)) f_footmanlaw38_PrioBack_p4b))
def f_footmanlaw38_PrioBack_p3 : RC :=
  (.seq (.seq (.region [⟨(some 75), (.mov (.t 10)), none, []⟩, ⟨(some 76), (.bin .neq (.t 75) (.c (.int .i64 0))), none, []⟩, ⟨(some 77), (.mov (.t 76)), none, []⟩, ⟨(some 78), (.load true 2 (.t 11)), (some (77, false)), []⟩, ⟨(some 79), (.load true 2 (.t 7)), (some (77, false)), []⟩, ⟨(some 80), (.eq true (.agg [0, 2]) (.t 78) (.t 79)), (some (77, false)), []⟩, ⟨(some 81), (.pick (.t 77) (.c (.bool true)) (.t 80)), none, []⟩, ⟨(some 82), (.mov (.t 81)), none, []⟩, ⟨(some 83), (.mov (.t 12)), (some (82, false)), []⟩, ⟨(some 84), (.bin .neq (.t 83) (.c (.int .i64 0))), (some (82, false)), []⟩, ⟨(some 85), (.pick (.t 82) (.c (.bool true)) (.t 84)), none, []⟩, ⟨(some 86), (.mov (.t 85)), none, []⟩, ⟨(some 87), (.load true 2 (.t 13)), (some (86, false)), []⟩, ⟨(some 88), (.load true 2 (.t 15)), (some (86, false)), []⟩, ⟨(some 89), (.eq true (.agg [0, 2]) (.t 87) (.t 88)), (some (86, false)), []⟩, ⟨(some 90), (.pick (.t 86) (.c (.bool true)) (.t 89)), none, []⟩, ⟨(some 91), (.mov (.t 90)), none, []⟩, ⟨(some 92), (.mov (.t 14)), (some (91, false)), []⟩, ⟨(some 93), (.bin .neq (.t 92) (.c (.int .i64 0))), (some (91, false)), []⟩, ⟨(some 94), (.pick (.t 91) (.c (.bool true)) (.t 93)), none, []⟩] false (some [2, 7, 9, 94])) (.cond (.t 94) (.seq (.region [⟨(some 6), (.mov (.c (.bool false))), none, []⟩] false (some [6])) .ret) .skip)) f_footmanlaw38_PrioBack_p4)
def f_footmanlaw38_PrioBack_p2 : RC :=
  (.seq (.region [⟨(some 61), (.load true 2 (.t 8)), none, []⟩, ⟨(some 15), (.alloc [(.int .i64 0), (.bool false)]), none, []⟩, ⟨none, (.store 2 (.t 15) (.t 61)), none, []⟩] false (some [2, 7, 9, 10, 11, 12, 13, 14, 15])) (.seq (.seq (.region [⟨(some 62), (.faddr 0 (.t 7)), none, []⟩, ⟨(some 63), (.load false 1 (.t 62)), none, []⟩, ⟨(some 64), (.bin .neq (.t 63) (.c (.int .i64 3))), none, []⟩] false (some [2, 7, 9, 10, 11, 12, 13, 14, 15, 64])) (.cond (.t 64) (.region [⟨(some 65), (.faddr 0 (.t 7)), none, []⟩, ⟨(some 66), (.load false 1 (.t 65)), none, []⟩, ⟨(some 67), (.faddr 0 (.t 15)), none, []⟩, ⟨none, (.store 1 (.t 67) (.t 66)), none, []⟩] false (some [2, 7, 9, 10, 11, 12, 13, 14, 15])) .skip)) (.seq (.region [⟨(some 68), (.faddr 1 (.t 15)), none, []⟩, ⟨(some 69), (.load false 1 (.t 68)), none, []⟩, ⟨(some 70), (.mov (.t 69)), none, []⟩, ⟨(some 71), (.faddr 1 (.t 7)), (some (70, false)), []⟩, ⟨(some 72), (.load false 1 (.t 71)), (some (70, false)), []⟩, ⟨(some 73), (.pick (.t 70) (.c (.bool true)) (.t 72)), none, []⟩, ⟨(some 74), (.faddr 1 (.t 15)), none, []⟩, ⟨none, (.store 1 (.t 74) (.t 73)), none, []⟩] false (some [2, 7, 9, 10, 11, 12, 13, 14, 15])) f_footmanlaw38_PrioBack_p3)))
def f_footmanlaw38_PrioBack_p1 : RC :=
  (.seq (.region [⟨(some 24), (.load true 2 (.t 7)), none, []⟩, ⟨(some 25), (.call 9 [(.t 24)]), none, []⟩, ⟨(some 23), (.mov (.t 25)), none, []⟩, ⟨(some 26), (.ext 0 (.t 23)), none, []⟩, ⟨(some 27), (.ext 1 (.t 23)), none, []⟩, ⟨(some 9), (.mov (.t 26)), none, []⟩, ⟨(some 10), (.mov (.t 27)), none, []⟩] false (some [2, 7, 8, 9, 10])) (.seq (.seq (.region [⟨(some 28), (.mov (.t 2)), none, []⟩, ⟨(some 29), (.lenS (.t 28)), none, []⟩, ⟨(some 30), (.bin .gtr (.t 29) (.c (.int .i64 100))), none, []⟩, ⟨(some 31), (.mov (.t 30)), none, []⟩, ⟨(some 32), (.load true 2 (.t 7)), (some (31, false)), []⟩, ⟨(some 33), (.call 11 [(.t 32)]), (some (31, false)), []⟩, ⟨(some 34), (.bin .neq (.t 33) (.c (.int .i64 0))), (some (31, false)), []⟩, ⟨(some 35), (.pick (.t 31) (.c (.bool true)) (.t 34)), none, []⟩, ⟨(some 36), (.mov (.t 35)), none, []⟩, ⟨(some 37), (.load true 2 (.t 8)), (some (36, false)), []⟩, ⟨(some 38), (.call 11 [(.t 37)]), (some (36, false)), []⟩, ⟨(some 39), (.bin .neq (.t 38) (.c (.int .i64 0))), (some (36, false)), []⟩, ⟨(some 40), (.pick (.t 36) (.c (.bool true)) (.t 39)), none, []⟩] false (some [2, 7, 8, 9, 10, 40])) (.cond (.t 40) (.seq (.region [⟨(some 41), (.mov (.t 10)), none, []⟩, ⟨(some 42), (.bin .eql (.t 41) (.c (.int .i64 0))), none, []⟩, ⟨(some 43), (.load true 2 (.t 7)), none, []⟩, ⟨(some 44), (.call 11 [(.t 43)]), none, []⟩, ⟨(some 45), (.bin .eql (.t 44) (.c (.int .i64 0))), none, []⟩, ⟨(some 46), (.eq false .bool (.t 42) (.t 45)), none, []⟩, ⟨(some 47), (.mov (.t 46)), none, []⟩, ⟨(some 48), (.call 8 []), (some (47, true)), []⟩, ⟨(some 49), (.pick (.t 47) (.t 48) (.c (.bool false))), none, []⟩, ⟨(some 6), (.mov (.t 49)), none, []⟩] false (some [6])) .ret) .skip)) (.seq (.region [⟨(some 51), (.mov (.t 9)), none, []⟩, ⟨(some 52), (.call 22 [(.t 51)]), none, []⟩, ⟨(some 50), (.mov (.t 52)), none, []⟩, ⟨(some 53), (.ext 0 (.t 50)), none, []⟩, ⟨(some 54), (.ext 1 (.t 50)), none, []⟩, ⟨(some 11), (.alloc [(.int .i64 0), (.bool false)]), none, []⟩, ⟨none, (.store 2 (.t 11) (.t 53)), none, []⟩, ⟨(some 12), (.mov (.t 54)), none, []⟩] false (some [2, 7, 8, 9, 10, 11, 12])) (.seq (.region [⟨(some 56), (.load true 2 (.t 8)), none, []⟩, ⟨(some 57), (.mov (.t 9)), none, []⟩, ⟨(some 58), (.call 23 [(.t 56), (.t 57)]), none, []⟩, ⟨(some 55), (.mov (.t 58)), none, []⟩, ⟨(some 59), (.ext 0 (.t 55)), none, []⟩, ⟨(some 60), (.ext 1 (.t 55)), none, []⟩, ⟨(some 13), (.alloc [(.int .i64 0), (.bool false)]), none, []⟩, ⟨none, (.store 2 (.t 13) (.t 59)), none, []⟩, ⟨(some 14), (.mov (.t 60)), none, []⟩] false (some [2, 7, 8, 9, 10, 11, 12, 13, 14])) f_footmanlaw38_PrioBack_p2))))
/-- footman/footmanlaw38.PrioBack: number 25 -/
def f_footmanlaw38_PrioBack : RF :=
  ⟨3, 132, [(.t 6)], (.seq (.region [⟨(some 3), (.box 2 (.t 0)), none, []⟩, ⟨(some 4), (.box 2 (.t 1)), none, []⟩, ⟨(some 6), (.mov (.c (.bool false))), none, []⟩] false (some [2, 3, 4])) (.seq (.multi [⟨(some 21), (.load true 2 (.t 3)), none, []⟩, ⟨(some 22), (.load true 2 (.t 4)), none, []⟩, ⟨(some 7), (.alloc [(.int .i64 0), (.bool false)]), none, []⟩, ⟨(some 8), (.alloc [(.int .i64 0), (.bool false)]), none, []⟩, ⟨none, (.store 2 (.t 7) (.t 21)), none, [2, 0, 0, 2, 3]⟩, ⟨none, (.store 2 (.t 8) (.t 22)), none, [3, 1, 4, 0, 1, 2, 3, 4]⟩] [[0, 1, 2, 3, 4, 5], [0, 1, 3, 2, 4, 5], [0, 2, 1, 3, 4, 5], [0, 2, 3, 1, 4, 5], [0, 3, 1, 2, 4, 5], [0, 3, 2, 1, 4, 5], [1, 0, 2, 3, 4, 5], [1, 0, 3, 2, 4, 5], [1, 2, 0, 3, 4, 5], [1, 2, 3, 0, 4, 5], [1, 3, 0, 2, 4, 5], [1, 3, 2, 0, 4, 5], [2, 0, 1, 3, 4, 5], [2, 0, 3, 1, 4, 5], [2, 1, 0, 3, 4, 5], [2, 1, 3, 0, 4, 5], [2, 3, 0, 1, 4, 5], [2, 3, 1, 0, 4, 5], [3, 0, 1, 2, 4, 5], [3, 0, 2, 1, 4, 5], [3, 1, 0, 2, 4, 5], [3, 1, 2, 0, 4, 5], [3, 2, 0, 1, 4, 5], [3, 2, 1, 0, 4, 5], [0, 2, 3, 4, 1, 5], [0, 3, 2, 4, 1, 5], [2, 0, 3, 4, 1, 5], [2, 3, 0, 4, 1, 5], [3, 0, 2, 4, 1, 5], [3, 2, 0, 4, 1, 5]] [2, 7, 8]) f_footmanlaw38_PrioBack_p1))⟩

/-- footman/footmanlaw38.awake: number 8 -/
def f_footmanlaw38_awake : RF :=
  ⟨0, 122, [(.t 0)], (.seq (.region [⟨(some 0), (.mov (.c (.bool false))), none, []⟩] false (some [])) (.seq (.region [⟨(some 15), (.call 22 [(.c (.str [117, 61, 49, 44, 32, 105, 44, 32, 120, 61, 121, 47, 122]))]), none, []⟩, ⟨(some 14), (.mov (.t 15)), none, []⟩, ⟨(some 16), (.ext 0 (.t 14)), none, []⟩, ⟨(some 17), (.ext 1 (.t 14)), none, []⟩, ⟨(some 1), (.alloc [(.int .i64 0), (.bool false)]), none, []⟩, ⟨none, (.store 2 (.t 1) (.t 16)), none, []⟩, ⟨(some 2), (.mov (.t 17)), none, []⟩] false (some [1, 2])) (.seq (.region [⟨(some 19), (.call 22 [(.c (.str [117, 61, 57]))]), none, []⟩, ⟨(some 18), (.mov (.t 19)), none, []⟩, ⟨(some 20), (.ext 0 (.t 18)), none, []⟩, ⟨(some 21), (.ext 1 (.t 18)), none, []⟩, ⟨(some 3), (.alloc [(.int .i64 0), (.bool false)]), none, []⟩, ⟨none, (.store 2 (.t 3) (.t 20)), none, []⟩, ⟨(some 4), (.mov (.t 21)), none, []⟩] false (some [1, 2, 3, 4])) (.seq (.region [⟨(some 23), (.call 22 [(.c (.str [117, 61, 49, 44]))]), none, []⟩, ⟨(some 22), (.mov (.t 23)), none, []⟩, ⟨(some 24), (.ext 0 (.t 22)), none, []⟩, ⟨(some 25), (.ext 1 (.t 22)), none, []⟩, ⟨(some 5), (.alloc [(.int .i64 0), (.bool false)]), none, []⟩, ⟨none, (.store 2 (.t 5) (.t 24)), none, []⟩, ⟨(some 6), (.mov (.t 25)), none, []⟩] false (some [1, 2, 3, 4, 6])) (.seq (.region [⟨(some 27), (.call 24 [(.c (.str [32, 97, 61, 63, 48, 9, 44, 42, 98]))]), none, []⟩, ⟨(some 26), (.mov (.t 27)), none, []⟩, ⟨(some 28), (.ext 0 (.t 26)), none, []⟩, ⟨(some 29), (.ext 1 (.t 26)), none, []⟩, ⟨(some 7), (.mov (.t 28)), none, []⟩, ⟨(some 8), (.mov (.t 29)), none, []⟩] false (some [1, 2, 3, 4, 6, 7, 8])) (.seq (.region [⟨(some 31), (.load true 2 (.t 1)), none, []⟩, ⟨(some 32), (.call 9 [(.t 31)]), none, []⟩, ⟨(some 30), (.mov (.t 32)), none, []⟩, ⟨(some 33), (.ext 0 (.t 30)), none, []⟩, ⟨(some 34), (.ext 1 (.t 30)), none, []⟩, ⟨(some 9), (.mov (.t 33)), none, []⟩, ⟨(some 10), (.mov (.t 34)), none, []⟩] false (some [1, 2, 3, 4, 6, 7, 8, 9, 10])) (.seq (.region [⟨(some 36), (.load true 2 (.t 1)), none, []⟩, ⟨(some 37), (.call 23 [(.t 36), (.c (.str [105, 61, 63, 48, 44, 117, 61, 53, 44, 117, 61, 50]))]), none, []⟩, ⟨(some 35), (.mov (.t 37)), none, []⟩, ⟨(some 38), (.ext 0 (.t 35)), none, []⟩, ⟨(some 39), (.ext 1 (.t 35)), none, []⟩, ⟨(some 11), (.alloc [(.int .i64 0), (.bool false)]), none, []⟩, ⟨none, (.store 2 (.t 11) (.t 38)), none, []⟩, ⟨(some 12), (.mov (.t 39)), none, []⟩] false (some [1, 2, 3, 4, 6, 7, 8, 9, 10, 11, 12])) (.seq (.region [⟨(some 40), (.build [(.int .i64 0), (.bool false)] [(0, (1, (.c (.int .i64 2)))), (1, (1, (.c (.bool true))))]), none, []⟩, ⟨(some 41), (.build [(.int .i64 0), (.bool false)] [(0, (1, (.c (.int .i64 2))))]), none, []⟩, ⟨(some 42), (.build [(.int .i64 0), (.bool false)] [(0, (1, (.c (.int .i64 0)))), (1, (1, (.c (.bool true))))]), none, []⟩, ⟨(some 43), (.lit false 2 3 [(.int .i64 0), (.bool false)] [(0, (2, (.t 40))), (2, (2, (.t 41))), (4, (2, (.t 42)))]), none, []⟩, ⟨(some 44), (.call 16 [(.t 43)]), none, []⟩, ⟨(some 13), (.mov (.t 44)), none, []⟩] false (some [1, 2, 3, 4, 6, 7, 8, 9, 10, 11, 12, 13])) (.seq (.region [⟨(some 45), (.load true 2 (.t 1)), none, []⟩, ⟨(some 46), (.build [(.int .i64 0), (.bool false)] [(0, (1, (.c (.int .i64 1)))), (1, (1, (.c (.bool true))))]), none, []⟩, ⟨(some 47), (.eq false (.agg [0, 2]) (.t 45) (.t 46)), none, [0, 1]⟩, ⟨(some 48), (.mov (.t 47)), none, [2]⟩, ⟨(some 49), (.mov (.t 2)), (some (48, true)), [3]⟩, ⟨(some 50), (.bin .eql (.t 49) (.c (.int .i64 0))), (some (48, true)), [4, 3]⟩, ⟨(some 51), (.pick (.t 48) (.t 50) (.c (.bool false))), none, [3, 5]⟩, ⟨(some 52), (.mov (.t 51)), none, [6, 3]⟩, ⟨(some 53), (.load true 2 (.t 3)), (some (52, true)), [7]⟩, ⟨(some 54), (.call 19 []), (some (52, true)), [7, 7]⟩, ⟨(some 55), (.eq false (.agg [0, 2]) (.t 53) (.t 54)), (some (52, true)), [8, 9, 7]⟩, ⟨(some 56), (.pick (.t 52) (.t 55) (.c (.bool false))), none, [7, 10]⟩, ⟨(some 57), (.mov (.t 56)), none, [11, 9]⟩, ⟨(some 58), (.mov (.t 4)), (some (57, true)), [12]⟩, ⟨(some 59), (.bin .eql (.t 58) (.c (.int .i64 0))), (some (57, true)), [13, 12]⟩, ⟨(some 60), (.pick (.t 57) (.t 59) (.c (.bool false))), none, [12, 14]⟩, ⟨(some 61), (.mov (.t 60)), none, [15, 12]⟩, ⟨(some 62), (.mov (.t 6)), (some (61, true)), [16]⟩, ⟨(some 63), (.bin .eql (.t 62) (.c (.int .i64 4))), (some (61, true)), [17, 16]⟩, ⟨(some 64), (.pick (.t 61) (.t 63) (.c (.bool false))), none, [16, 18]⟩, ⟨(some 65), (.mov (.t 64)), none, [19, 16]⟩, ⟨(some 66), (.mov (.t 7)), (some (65, true)), [20]⟩, ⟨(some 67), (.len (.t 66)), (some (65, true)), [21, 20]⟩, ⟨(some 68), (.bin .eql (.t 67) (.c (.int .i64 2))), (some (65, true)), [22, 20]⟩, ⟨(some 69), (.pick (.t 65) (.t 68) (.c (.bool false))), none, [20, 23]⟩, ⟨(some 70), (.mov (.t 69)), none, [24, 20]⟩, ⟨(some 71), (.mov (.t 7)), (some (70, true)), [25]⟩, ⟨(some 72), (.iaddr 2 (.t 71) (.c (.int .i64 1))), (some (70, true)), [26, 25]⟩, ⟨(some 73), (.load true 2 (.t 72)), (some (70, true)), [27, 25]⟩, ⟨(some 74), (.build [(.str []), (.str [])] [(0, (1, (.c (.str [42, 98])))), (1, (1, (.c (.str [63, 49]))))]), (some (70, true)), [25]⟩, ⟨(some 75), (.eq false (.agg [1, 1]) (.t 73) (.t 74)), (some (70, true)), [28, 29, 25]⟩, ⟨(some 76), (.pick (.t 70) (.t 75) (.c (.bool false))), none, [25, 30]⟩, ⟨(some 77), (.mov (.t 76)), none, [31, 25]⟩, ⟨(some 78), (.mov (.t 8)), (some (77, true)), [32]⟩, ⟨(some 79), (.bin .eql (.t 78) (.c (.int .i64 0))), (some (77, true)), [33, 32]⟩, ⟨(some 80), (.pick (.t 77) (.t 79) (.c (.bool false))), none, [32, 34]⟩, ⟨(some 81), (.mov (.t 80)), none, [35, 32]⟩, ⟨(some 82), (.mov (.t 9)), (some (81, true)), [36]⟩, ⟨(some 83), (.bin .eql (.t 82) (.c (.str [117, 61, 49, 44, 32, 105]))), (some (81, true)), [37, 36]⟩, ⟨(some 84), (.pick (.t 81) (.t 83) (.c (.bool false))), none, [36, 38]⟩, ⟨(some 85), (.mov (.t 84)), none, [39, 36]⟩, ⟨(some 86), (.mov (.t 10)), (some (85, true)), [40]⟩, ⟨(some 87), (.bin .eql (.t 86) (.c (.int .i64 0))), (some (85, true)), [41, 40]⟩, ⟨(some 88), (.pick (.t 85) (.t 87) (.c (.bool false))), none, [40, 42]⟩, ⟨(some 89), (.mov (.t 88)), none, [43, 40]⟩, ⟨(some 90), (.load true 2 (.t 11)), (some (89, true)), [44]⟩, ⟨(some 91), (.build [(.int .i64 0), (.bool false)] [(0, (1, (.c (.int .i64 2))))]), (some (89, true)), [44]⟩, ⟨(some 92), (.eq false (.agg [0, 2]) (.t 90) (.t 91)), (some (89, true)), [45, 46, 44]⟩, ⟨(some 93), (.pick (.t 89) (.t 92) (.c (.bool false))), none, [44, 47]⟩, ⟨(some 94), (.mov (.t 93)), none, [48, 44]⟩, ⟨(some 95), (.mov (.t 12)), (some (94, true)), [49]⟩, ⟨(some 96), (.bin .eql (.t 95) (.c (.int .i64 0))), (some (94, true)), [50, 49]⟩, ⟨(some 97), (.pick (.t 94) (.t 96) (.c (.bool false))), none, [49, 51]⟩, ⟨(some 98), (.mov (.t 97)), none, [52, 49]⟩, ⟨(some 99), (.mov (.t 13)), (some (98, true)), [53]⟩, ⟨(some 100), (.lit false 1 3 [(.int .i64 0)] [(0, (1, (.c (.int .i64 2)))), (1, (1, (.c (.int .i64 1)))), (2, (1, (.c (.int .i64 0))))]), (some (98, true)), [53]⟩, ⟨(some 101), (.call 18 [(.t 99), (.t 100)]), (some (98, true)), [54, 55, 53, 53]⟩, ⟨(some 102), (.pick (.t 98) (.t 101) (.c (.bool false))), none, [53, 56]⟩, ⟨(some 103), (.mov (.t 102)), none, [57, 56]⟩, ⟨(some 104), (.load true 2 (.t 11)), (some (103, true)), [58]⟩, ⟨(some 105), (.load true 2 (.t 1)), (some (103, true)), [58]⟩, ⟨(some 106), (.call 13 [(.t 104), (.t 105)]), (some (103, true)), [59, 60, 58, 58]⟩, ⟨(some 107), (.eq false .bool (.t 106) (.c (.bool false))), (some (103, true)), [61, 58]⟩, ⟨(some 108), (.pick (.t 103) (.t 107) (.c (.bool false))), none, [58, 62]⟩, ⟨(some 109), (.mov (.t 108)), none, [63, 61]⟩, ⟨(some 110), (.build [(.int .i64 0), (.bool false)] [(0, (1, (.c (.int .i64 8))))]), (some (109, true)), [64]⟩, ⟨(some 111), (.call 11 [(.t 110)]), (some (109, true)), [65, 64, 64]⟩, ⟨(some 112), (.bin .eql (.t 111) (.c (.int .i64 8))), (some (109, true)), [66, 64]⟩, ⟨(some 113), (.pick (.t 109) (.t 112) (.c (.bool false))), none, [64, 67]⟩, ⟨(some 114), (.mov (.t 113)), none, [68, 66]⟩, ⟨(some 115), (.pick (.t 114) (.c (.bool true)) (.c (.bool false))), none, [69]⟩, ⟨(some 116), (.mov (.t 115)), none, [70, 69]⟩, ⟨(some 117), (.pick (.t 116) (.c (.bool true)) (.c (.bool false))), none, [71]⟩, ⟨(some 118), (.mov (.t 117)), none, [72, 71]⟩, ⟨(some 119), (.pick (.t 118) (.c (.bool true)) (.c (.bool false))), none, [73]⟩, ⟨(some 120), (.mov (.t 119)), none, [74, 73]⟩, ⟨(some 121), (.pick (.t 120) (.c (.bool true)) (.c (.bool false))), none, [75]⟩, ⟨(some 0), (.mov (.t 121)), none, [76, 75, 0, 1, 2, 3, 4, 5, 6, 7, 8, 9, 10, 11, 12, 13, 14, 15, 16, 17, 18, 19, 20, 21, 22, 23, 24, 25, 26, 27, 28, 29, 30, 31, 32, 33, 34, 35, 36, 37, 38, 39, 40, 41, 42, 43, 44, 45, 46, 47, 48, 49, 50, 51, 52, 53, 54, 55, 56, 57, 58, 59, 60, 61, 62, 63, 64, 65, 66, 67, 68, 69, 70, 71, 72, 73, 74, 75, 76]⟩] true (some [0])) .ret)))))))))⟩

/-- footman/footmanref15.SameInts: number 18 -/
def f_footmanref15_SameInts : RF :=
  ⟨2, 26, [(.t 4)], (.seq (.region [⟨(some 4), (.mov (.c (.bool false))), none, []⟩] false (some [0, 1])) (.seq (.seq (.region [⟨(some 6), (.mov (.t 0)), none, []⟩, ⟨(some 7), (.len (.t 6)), none, []⟩, ⟨(some 8), (.mov (.t 1)), none, []⟩, ⟨(some 9), (.len (.t 8)), none, []⟩, ⟨(some 10), (.bin .neq (.t 7) (.t 9)), none, []⟩] false (some [0, 1, 10])) (.cond (.t 10) (.seq (.region [⟨(some 4), (.mov (.c (.bool false))), none, []⟩] false (some [4])) .ret) .skip)) (.seq (.seq (.region [⟨(some 5), (.mov (.c (.int .i64 0))), none, []⟩] false (some [0, 1, 5])) (.block 0 (.loop (.seq (.seq (.region [⟨(some 11), (.mov (.t 5)), none, []⟩, ⟨(some 12), (.mov (.t 0)), none, []⟩, ⟨(some 13), (.len (.t 12)), none, []⟩, ⟨(some 14), (.bin .lss (.t 11) (.t 13)), none, []⟩] false (some [0, 1, 5, 14])) (.cond (.t 14) .skip (.exit 0))) (.seq (.block 1 (.seq (.region [⟨(some 17), (.mov (.t 0)), none, []⟩, ⟨(some 18), (.mov (.t 5)), none, []⟩, ⟨(some 19), (.iaddr 1 (.t 17) (.t 18)), none, [0, 1]⟩, ⟨(some 20), (.load false 1 (.t 19)), none, [2]⟩, ⟨(some 21), (.mov (.t 1)), none, []⟩, ⟨(some 22), (.mov (.t 5)), none, []⟩, ⟨(some 23), (.iaddr 1 (.t 21) (.t 22)), none, [4, 5]⟩, ⟨(some 24), (.load false 1 (.t 23)), none, [6]⟩, ⟨(some 25), (.bin .neq (.t 20) (.t 24)), none, [3, 7]⟩] true (some [0, 1, 5, 25])) (.cond (.t 25) (.seq (.region [⟨(some 4), (.mov (.c (.bool false))), none, []⟩] false (some [4])) .ret) .skip))) (.region [⟨(some 15), (.mov (.t 5)), none, []⟩, ⟨(some 16), (.bin .add (.t 15) (.c (.int .i64 1))), none, []⟩, ⟨(some 5), (.mov (.t 16)), none, []⟩] false (some [0, 1, 5]))))))) (.seq (.region [⟨(some 4), (.mov (.c (.bool true))), none, []⟩] false (some [4])) .ret))))⟩

def f_prio_Sort_q1 : RC :=
  (.seq (.block 1 (.seq (.region [⟨(some 10), (.mov (.t 8)), none, []⟩, ⟨(some 5), (.mov (.t 10)), none, []⟩] false (some [1, 3, 4, 5, 7, 8])) (.region [⟨(some 11), (.mov (.t 4)), none, []⟩, ⟨(some 12), (.mov (.t 5)), none, []⟩, ⟨(some 13), (.lit false 1 1 [(.int .i64 0)] [(0, (1, (.t 12)))]), none, []⟩, ⟨(some 14), (.app 1 (.t 11) (.t 13)), none, []⟩, ⟨(some 4), (.mov (.t 14)), none, []⟩] false (some [1, 3, 4, 7, 8])))) (.region [⟨(some 15), (.bin .add (.t 8) (.c (.int .i64 1))), none, []⟩, ⟨(some 8), (.mov (.t 15)), none, []⟩] false (some [1, 3, 4, 7, 8])))
def f_prio_Sort_q2 : RC :=
  (.seq (.seq (.region [⟨(some 6), (.load false 1 (.t 1)), none, []⟩, ⟨(some 7), (.len (.t 6)), none, []⟩, ⟨(some 8), (.mov (.c (.int .i64 0))), none, []⟩] false (some [1, 3, 4, 7, 8])) (.block 0 (.loop (.seq (.region [⟨(some 9), (.bin .lss (.t 8) (.t 7)), none, []⟩] false (some [1, 3, 4, 7, 8, 9])) (.seq (.cond (.t 9) .skip (.exit 0)) f_prio_Sort_q1))))) (.seq (.region [⟨(some 16), (.mov (.t 4)), none, []⟩, ⟨(some 17), (.mkfn 29 [] [(.t 3), (.t 1)]), none, []⟩, ⟨(some 18), (.call 30 [(.t 16), (.t 17)]), none, []⟩] false (some [4])) (.seq (.region [⟨(some 19), (.mov (.t 4)), none, []⟩, ⟨(some 2), (.mov (.t 19)), none, []⟩] false (some [2])) .ret)))
/-- footman/prio.Sort: number 16 -/
def f_prio_Sort : RF :=
  ⟨1, 20, [(.t 2)], (.seq (.region [⟨(some 1), (.box 1 (.t 0)), none, []⟩, ⟨(some 2), (.mov (.c .nils)), none, []⟩] false (some [1])) (.seq (.region [⟨(some 3), (.alloc [.nilf]), none, []⟩, ⟨none, (.store 1 (.t 3) (.c (.fn 28 [] []))), none, []⟩] false (some [1, 3])) (.seq (.region [⟨(some 4), (.mov (.c .nils)), none, []⟩] false (some [1, 3, 4])) f_prio_Sort_q2)))⟩

/-- slices.SortStableFunc[[]int,int]: number 30 -/
def f_slices_SortStableFunc_int_int : RF :=
  ⟨2, 9, [], (.region [⟨(some 4), (.mov (.t 0)), none, []⟩, ⟨(some 5), (.mov (.t 0)), none, []⟩, ⟨(some 6), (.len (.t 5)), none, []⟩, ⟨(some 7), (.mov (.t 1)), none, []⟩, ⟨(some 8), (.call 37 [(.t 4), (.t 6), (.t 7)]), none, []⟩] false (some []))⟩

/-- footman/prio.Sort$1: number 29 -/
def f_prio_Sort_1 : RF :=
  ⟨4, 17, [(.t 6)], (.seq (.region [⟨(some 6), (.mov (.c (.int .i64 0))), none, []⟩] false (some [0, 1, 2, 3])) (.seq (.region [⟨(some 7), (.load false 1 (.t 2)), none, []⟩, ⟨(some 8), (.load false 1 (.t 3)), none, []⟩, ⟨(some 9), (.mov (.t 0)), none, []⟩, ⟨(some 10), (.iaddr 2 (.t 8) (.t 9)), none, [1, 2]⟩, ⟨(some 11), (.load true 2 (.t 10)), none, [3]⟩, ⟨(some 12), (.load false 1 (.t 3)), none, []⟩, ⟨(some 13), (.mov (.t 1)), none, []⟩, ⟨(some 14), (.iaddr 2 (.t 12) (.t 13)), none, [5, 6]⟩, ⟨(some 15), (.load true 2 (.t 14)), none, [7]⟩, ⟨(some 16), (.callv (.t 7) [(.t 11), (.t 15)]), none, [0, 4, 8]⟩, ⟨(some 6), (.mov (.t 16)), none, [9, 9, 0, 1, 2, 3, 4, 5, 6, 7, 8, 9]⟩] true (some [6])) .ret))⟩

def f_slices_stableCmpFunc_int_q1 : RC :=
  (.seq (.seq (.region [⟨(some 11), (.mov (.t 8)), none, []⟩, ⟨(some 12), (.mov (.t 1)), none, []⟩, ⟨(some 13), (.bin .leq (.t 11) (.t 12)), none, []⟩] false (some [0, 1, 2, 6, 7, 8, 13])) (.cond (.t 13) .skip (.exit 0))) (.block 1 (.seq (.region [⟨(some 14), (.mov (.t 0)), none, []⟩, ⟨(some 15), (.mov (.t 7)), none, []⟩, ⟨(some 16), (.mov (.t 8)), none, []⟩, ⟨(some 17), (.mov (.t 2)), none, []⟩, ⟨(some 18), (.call 54 [(.t 14), (.t 15), (.t 16), (.t 17)]), none, []⟩] false (some [0, 1, 2, 6, 8])) (.seq (.region [⟨(some 19), (.mov (.t 8)), none, []⟩, ⟨(some 7), (.mov (.t 19)), none, []⟩] false (some [0, 1, 2, 6, 7, 8])) (.region [⟨(some 20), (.mov (.t 8)), none, []⟩, ⟨(some 21), (.mov (.t 6)), none, []⟩, ⟨(some 22), (.bin .add (.t 20) (.t 21)), none, []⟩, ⟨(some 8), (.mov (.t 22)), none, []⟩] false (some [0, 1, 2, 6, 7, 8]))))))
def f_slices_stableCmpFunc_int_q2 : RC :=
  (.block 5 (.seq (.region [⟨(some 36), (.mov (.t 0)), none, []⟩, ⟨(some 37), (.mov (.t 7)), none, []⟩, ⟨(some 38), (.mov (.t 7)), none, []⟩, ⟨(some 39), (.mov (.t 6)), none, []⟩, ⟨(some 40), (.bin .add (.t 38) (.t 39)), none, []⟩, ⟨(some 41), (.mov (.t 8)), none, []⟩, ⟨(some 42), (.mov (.t 2)), none, []⟩, ⟨(some 43), (.call 55 [(.t 36), (.t 37), (.t 40), (.t 41), (.t 42)]), none, []⟩] false (some [0, 1, 2, 6, 8])) (.seq (.region [⟨(some 44), (.mov (.t 8)), none, []⟩, ⟨(some 7), (.mov (.t 44)), none, []⟩] false (some [0, 1, 2, 6, 7, 8])) (.region [⟨(some 45), (.mov (.t 8)), none, []⟩, ⟨(some 46), (.mov (.t 6)), none, []⟩, ⟨(some 47), (.bin .mul (.c (.int .i64 2)) (.t 46)), none, []⟩, ⟨(some 48), (.bin .add (.t 45) (.t 47)), none, []⟩, ⟨(some 8), (.mov (.t 48)), none, []⟩] false (some [0, 1, 2, 6, 7, 8])))))
def f_slices_stableCmpFunc_int_q3 : RC :=
  (.seq (.seq (.region [⟨(some 49), (.mov (.t 7)), none, []⟩, ⟨(some 50), (.mov (.t 6)), none, []⟩, ⟨(some 51), (.bin .add (.t 49) (.t 50)), none, []⟩, ⟨(some 9), (.mov (.t 51)), none, []⟩] false (some [0, 1, 2, 6, 7, 9])) (.seq (.region [⟨(some 52), (.mov (.t 9)), none, []⟩, ⟨(some 53), (.mov (.t 1)), none, []⟩, ⟨(some 54), (.bin .lss (.t 52) (.t 53)), none, []⟩] false (some [0, 1, 2, 6, 7, 9, 54])) (.cond (.t 54) (.region [⟨(some 55), (.mov (.t 0)), none, []⟩, ⟨(some 56), (.mov (.t 7)), none, []⟩, ⟨(some 57), (.mov (.t 9)), none, []⟩, ⟨(some 58), (.mov (.t 1)), none, []⟩, ⟨(some 59), (.mov (.t 2)), none, []⟩, ⟨(some 60), (.call 55 [(.t 55), (.t 56), (.t 57), (.t 58), (.t 59)]), none, []⟩] false (some [0, 1, 2, 6])) .skip))) (.region [⟨(some 61), (.mov (.t 6)), none, []⟩, ⟨(some 62), (.bin .mul (.t 61) (.c (.int .i64 2))), none, []⟩, ⟨(some 6), (.mov (.t 62)), none, []⟩] false (some [0, 1, 2, 6])))
def f_slices_stableCmpFunc_int_q4 : RC :=
  (.seq (.seq (.region [⟨(some 28), (.mov (.t 6)), none, []⟩, ⟨(some 29), (.mov (.t 1)), none, []⟩, ⟨(some 30), (.bin .lss (.t 28) (.t 29)), none, []⟩] false (some [0, 1, 2, 6, 30])) (.cond (.t 30) .skip (.exit 2))) (.block 3 (.seq (.region [⟨(some 31), (.mov (.t 6)), none, []⟩, ⟨(some 32), (.bin .mul (.c (.int .i64 2)) (.t 31)), none, []⟩, ⟨(some 7), (.mov (.c (.int .i64 0))), none, []⟩, ⟨(some 8), (.mov (.t 32)), none, []⟩] false (some [0, 1, 2, 6, 7, 8])) (.seq (.block 4 (.loop (.seq (.seq (.region [⟨(some 33), (.mov (.t 8)), none, []⟩, ⟨(some 34), (.mov (.t 1)), none, []⟩, ⟨(some 35), (.bin .leq (.t 33) (.t 34)), none, []⟩] false (some [0, 1, 2, 6, 7, 8, 35])) (.cond (.t 35) .skip (.exit 4))) f_slices_stableCmpFunc_int_q2))) f_slices_stableCmpFunc_int_q3))))
/-- slices.stableCmpFunc[int]: number 37 -/
def f_slices_stableCmpFunc_int : RF :=
  ⟨3, 63, [], (.seq (.region [⟨(some 6), (.mov (.c (.int .i64 20))), none, []⟩] false (some [0, 1, 2, 6])) (.seq (.region [⟨(some 10), (.mov (.t 6)), none, []⟩, ⟨(some 7), (.mov (.c (.int .i64 0))), none, []⟩, ⟨(some 8), (.mov (.t 10)), none, []⟩] false (some [0, 1, 2, 6, 7, 8])) (.seq (.block 0 (.loop f_slices_stableCmpFunc_int_q1)) (.seq (.region [⟨(some 23), (.mov (.t 0)), none, []⟩, ⟨(some 24), (.mov (.t 7)), none, []⟩, ⟨(some 25), (.mov (.t 1)), none, []⟩, ⟨(some 26), (.mov (.t 2)), none, []⟩, ⟨(some 27), (.call 54 [(.t 23), (.t 24), (.t 25), (.t 26)]), none, []⟩] false (some [0, 1, 2, 6])) (.block 2 (.loop f_slices_stableCmpFunc_int_q4))))))⟩

/-- slices.insertionSortCmpFunc[int]: number 54 -/
def f_slices_insertionSortCmpFunc_int : RF :=
  ⟨4, 53, [], (.seq (.region [⟨(some 10), (.mov (.t 1)), none, []⟩, ⟨(some 11), (.bin .add (.t 10) (.c (.int .i64 1))), none, []⟩, ⟨(some 8), (.mov (.t 11)), none, []⟩] false (some [0, 1, 2, 3, 8])) (.block 0 (.loop (.seq (.seq (.region [⟨(some 12), (.mov (.t 8)), none, []⟩, ⟨(some 13), (.mov (.t 2)), none, []⟩, ⟨(some 14), (.bin .lss (.t 12) (.t 13)), none, []⟩] false (some [0, 1, 2, 3, 8, 14])) (.cond (.t 14) .skip (.exit 0))) (.seq (.block 1 (.seq (.region [⟨(some 17), (.mov (.t 8)), none, []⟩, ⟨(some 9), (.mov (.t 17)), none, []⟩] false (some [0, 1, 2, 3, 8, 9])) (.block 2 (.loop (.seq (.seq (.region [⟨(some 18), (.mov (.t 9)), none, []⟩, ⟨(some 19), (.mov (.t 1)), none, []⟩, ⟨(some 20), (.bin .gtr (.t 18) (.t 19)), none, [0, 1]⟩, ⟨(some 21), (.mov (.t 20)), none, [2]⟩, ⟨(some 22), (.mov (.t 3)), (some (21, true)), [3]⟩, ⟨(some 23), (.mov (.t 0)), (some (21, true)), [3]⟩, ⟨(some 24), (.mov (.t 9)), (some (21, true)), [3]⟩, ⟨(some 25), (.iaddr 1 (.t 23) (.t 24)), (some (21, true)), [5, 6, 3]⟩, ⟨(some 26), (.load false 1 (.t 25)), (some (21, true)), [7, 3]⟩, ⟨(some 27), (.mov (.t 0)), (some (21, true)), [3]⟩, ⟨(some 28), (.mov (.t 9)), (some (21, true)), [3]⟩, ⟨(some 29), (.bin .sub (.t 28) (.c (.int .i64 1))), (some (21, true)), [10, 3]⟩, ⟨(some 30), (.iaddr 1 (.t 27) (.t 29)), (some (21, true)), [9, 11, 3]⟩, ⟨(some 31), (.load false 1 (.t 30)), (some (21, true)), [12, 3]⟩, ⟨(some 32), (.callv (.t 22) [(.t 26), (.t 31)]), (some (21, true)), [4, 8, 13, 3, 3]⟩, ⟨(some 33), (.bin .lss (.t 32) (.c (.int .i64 0))), (some (21, true)), [14, 3]⟩, ⟨(some 34), (.pick (.t 21) (.t 33) (.c (.bool false))), none, [3, 15]⟩] true (some [0, 1, 2, 3, 8, 9, 34])) (.cond (.t 34) .skip (.exit 2))) (.seq (.block 3 (.region [⟨(some 37), (.mov (.t 0)), none, []⟩, ⟨(some 38), (.mov (.t 9)), none, []⟩, ⟨(some 39), (.mov (.t 0)), none, []⟩, ⟨(some 40), (.mov (.t 9)), none, []⟩, ⟨(some 41), (.bin .sub (.t 40) (.c (.int .i64 1))), none, [3]⟩, ⟨(some 42), (.mov (.t 0)), none, []⟩, ⟨(some 43), (.mov (.t 9)), none, []⟩, ⟨(some 44), (.bin .sub (.t 43) (.c (.int .i64 1))), none, [6]⟩, ⟨(some 45), (.iaddr 1 (.t 42) (.t 44)), none, [5, 7]⟩, ⟨(some 46), (.load false 1 (.t 45)), none, [8]⟩, ⟨(some 47), (.mov (.t 0)), none, []⟩, ⟨(some 48), (.mov (.t 9)), none, []⟩, ⟨(some 49), (.iaddr 1 (.t 47) (.t 48)), none, [10, 11]⟩, ⟨(some 50), (.load false 1 (.t 49)), none, [12]⟩, ⟨(some 51), (.iaddr 1 (.t 37) (.t 38)), none, [0, 1, 0, 1, 5, 6, 7, 8, 9, 13]⟩, ⟨none, (.store 1 (.t 51) (.t 46)), none, [14, 9, 0, 1, 5, 6, 7, 8, 9, 13]⟩, ⟨(some 52), (.iaddr 1 (.t 39) (.t 41)), none, [2, 4, 0, 1, 2, 3, 4, 5, 6, 7, 8, 9, 10, 11, 12, 13, 14, 15]⟩, ⟨none, (.store 1 (.t 52) (.t 50)), none, [16, 13, 15, 0, 1, 2, 3, 4, 5, 6, 7, 8, 9, 10, 11, 12, 13, 14, 15]⟩] true (some [0, 1, 2, 3, 8, 9]))) (.region [⟨(some 35), (.mov (.t 9)), none, []⟩, ⟨(some 36), (.bin .sub (.t 35) (.c (.int .i64 1))), none, []⟩, ⟨(some 9), (.mov (.t 36)), none, []⟩] false (some [0, 1, 2, 3, 8, 9])))))))) (.region [⟨(some 15), (.mov (.t 8)), none, []⟩, ⟨(some 16), (.bin .add (.t 15) (.c (.int .i64 1))), none, []⟩, ⟨(some 8), (.mov (.t 16)), none, []⟩] false (some [0, 1, 2, 3, 8])))))))⟩

def f_slices_symMergeCmpFunc_int_q1 : RC :=
  (.seq (.region [⟨(some 40), (.mov (.t 4)), none, []⟩, ⟨(some 41), (.mov (.t 0)), none, []⟩, ⟨(some 42), (.mov (.t 12)), none, []⟩, ⟨(some 43), (.iaddr 1 (.t 41) (.t 42)), none, [1, 2]⟩, ⟨(some 44), (.load false 1 (.t 43)), none, [3]⟩, ⟨(some 45), (.mov (.t 0)), none, []⟩, ⟨(some 46), (.mov (.t 1)), none, []⟩, ⟨(some 47), (.iaddr 1 (.t 45) (.t 46)), none, [5, 6]⟩, ⟨(some 48), (.load false 1 (.t 47)), none, [7]⟩, ⟨(some 49), (.callv (.t 40) [(.t 44), (.t 48)]), none, [0, 4, 8]⟩, ⟨(some 50), (.bin .lss (.t 49) (.c (.int .i64 0))), none, [9]⟩] true (some [0, 1, 4, 10, 11, 12, 50])) (.cond (.t 50) (.region [⟨(some 51), (.mov (.t 12)), none, []⟩, ⟨(some 52), (.bin .add (.t 51) (.c (.int .i64 1))), none, []⟩, ⟨(some 10), (.mov (.t 52)), none, []⟩] false (some [0, 1, 4, 10, 11])) (.region [⟨(some 53), (.mov (.t 12)), none, []⟩, ⟨(some 11), (.mov (.t 53)), none, []⟩] false (some [0, 1, 4, 10, 11]))))
def f_slices_symMergeCmpFunc_int_q2 : RC :=
  (.seq (.seq (.region [⟨(some 31), (.mov (.t 10)), none, []⟩, ⟨(some 32), (.mov (.t 11)), none, []⟩, ⟨(some 33), (.bin .lss (.t 31) (.t 32)), none, []⟩] false (some [0, 1, 4, 10, 11, 33])) (.cond (.t 33) .skip (.exit 0))) (.block 1 (.seq (.region [⟨(some 34), (.mov (.t 10)), none, []⟩, ⟨(some 35), (.mov (.t 11)), none, []⟩, ⟨(some 36), (.bin .add (.t 34) (.t 35)), none, []⟩, ⟨(some 37), (.conv .u64 (.t 36)), none, []⟩, ⟨(some 38), (.bin .shr (.t 37) (.c (.int .u64 1))), none, []⟩, ⟨(some 39), (.conv .i64 (.t 38)), none, []⟩, ⟨(some 12), (.mov (.t 39)), none, []⟩] false (some [0, 1, 4, 10, 11, 12])) f_slices_symMergeCmpFunc_int_q1)))
def f_slices_symMergeCmpFunc_int_q3 : RC :=
  (.seq (.block 3 (.region [⟨(some 61), (.mov (.t 0)), none, []⟩, ⟨(some 62), (.mov (.t 13)), none, []⟩, ⟨(some 63), (.mov (.t 0)), none, []⟩, ⟨(some 64), (.mov (.t 13)), none, []⟩, ⟨(some 65), (.bin .add (.t 64) (.c (.int .i64 1))), none, [3]⟩, ⟨(some 66), (.mov (.t 0)), none, []⟩, ⟨(some 67), (.mov (.t 13)), none, []⟩, ⟨(some 68), (.bin .add (.t 67) (.c (.int .i64 1))), none, [6]⟩, ⟨(some 69), (.iaddr 1 (.t 66) (.t 68)), none, [5, 7]⟩, ⟨(some 70), (.load false 1 (.t 69)), none, [8]⟩, ⟨(some 71), (.mov (.t 0)), none, []⟩, ⟨(some 72), (.mov (.t 13)), none, []⟩, ⟨(some 73), (.iaddr 1 (.t 71) (.t 72)), none, [10, 11]⟩, ⟨(some 74), (.load false 1 (.t 73)), none, [12]⟩, ⟨(some 75), (.iaddr 1 (.t 61) (.t 62)), none, [0, 1, 0, 1, 5, 6, 7, 8, 9, 13]⟩, ⟨none, (.store 1 (.t 75) (.t 70)), none, [14, 9, 0, 1, 5, 6, 7, 8, 9, 13]⟩, ⟨(some 76), (.iaddr 1 (.t 63) (.t 65)), none, [2, 4, 0, 1, 2, 3, 4, 5, 6, 7, 8, 9, 10, 11, 12, 13, 14, 15]⟩, ⟨none, (.store 1 (.t 76) (.t 74)), none, [16, 13, 15, 0, 1, 2, 3, 4, 5, 6, 7, 8, 9, 10, 11, 12, 13, 14, 15]⟩] true (some [0, 10, 13]))) (.region [⟨(some 59), (.mov (.t 13)), none, []⟩, ⟨(some 60), (.bin .add (.t 59) (.c (.int .i64 1))), none, []⟩, ⟨(some 13), (.mov (.t 60)), none, []⟩] false (some [0, 10, 13])))
def f_slices_symMergeCmpFunc_int_q4 : RC :=
  (.seq (.block 0 (.loop f_slices_symMergeCmpFunc_int_q2)) (.seq (.seq (.region [⟨(some 54), (.mov (.t 1)), none, []⟩, ⟨(some 13), (.mov (.t 54)), none, []⟩] false (some [0, 10, 13])) (.block 2 (.loop (.seq (.seq (.region [⟨(some 55), (.mov (.t 13)), none, []⟩, ⟨(some 56), (.mov (.t 10)), none, []⟩, ⟨(some 57), (.bin .sub (.t 56) (.c (.int .i64 1))), none, []⟩, ⟨(some 58), (.bin .lss (.t 55) (.t 57)), none, []⟩] false (some [0, 10, 13, 58])) (.cond (.t 58) .skip (.exit 2))) f_slices_symMergeCmpFunc_int_q3)))) .ret))
def f_slices_symMergeCmpFunc_int_q5 : RC :=
  (.seq (.region [⟨(some 92), (.mov (.t 4)), none, []⟩, ⟨(some 93), (.mov (.t 0)), none, []⟩, ⟨(some 94), (.mov (.t 2)), none, []⟩, ⟨(some 95), (.iaddr 1 (.t 93) (.t 94)), none, [1, 2]⟩, ⟨(some 96), (.load false 1 (.t 95)), none, [3]⟩, ⟨(some 97), (.mov (.t 0)), none, []⟩, ⟨(some 98), (.mov (.t 16)), none, []⟩, ⟨(some 99), (.iaddr 1 (.t 97) (.t 98)), none, [5, 6]⟩, ⟨(some 100), (.load false 1 (.t 99)), none, [7]⟩, ⟨(some 101), (.callv (.t 92) [(.t 96), (.t 100)]), none, [0, 4, 8]⟩, ⟨(some 102), (.bin .lss (.t 101) (.c (.int .i64 0))), none, [9]⟩, ⟨(some 103), (.not (.t 102)), none, [10]⟩] true (some [0, 2, 4, 14, 15, 16, 103])) (.cond (.t 103) (.region [⟨(some 104), (.mov (.t 16)), none, []⟩, ⟨(some 105), (.bin .add (.t 104) (.c (.int .i64 1))), none, []⟩, ⟨(some 14), (.mov (.t 105)), none, []⟩] false (some [0, 2, 4, 14, 15])) (.region [⟨(some 106), (.mov (.t 16)), none, []⟩, ⟨(some 15), (.mov (.t 106)), none, []⟩] false (some [0, 2, 4, 14, 15]))))
def f_slices_symMergeCmpFunc_int_q6 : RC :=
  (.seq (.seq (.region [⟨(some 83), (.mov (.t 14)), none, []⟩, ⟨(some 84), (.mov (.t 15)), none, []⟩, ⟨(some 85), (.bin .lss (.t 83) (.t 84)), none, []⟩] false (some [0, 2, 4, 14, 15, 85])) (.cond (.t 85) .skip (.exit 4))) (.block 5 (.seq (.region [⟨(some 86), (.mov (.t 14)), none, []⟩, ⟨(some 87), (.mov (.t 15)), none, []⟩, ⟨(some 88), (.bin .add (.t 86) (.t 87)), none, []⟩, ⟨(some 89), (.conv .u64 (.t 88)), none, []⟩, ⟨(some 90), (.bin .shr (.t 89) (.c (.int .u64 1))), none, []⟩, ⟨(some 91), (.conv .i64 (.t 90)), none, []⟩, ⟨(some 16), (.mov (.t 91)), none, []⟩] false (some [0, 2, 4, 14, 15, 16])) f_slices_symMergeCmpFunc_int_q5)))
def f_slices_symMergeCmpFunc_int_q7 : RC :=
  (.seq (.block 7 (.region [⟨(some 113), (.mov (.t 0)), none, []⟩, ⟨(some 114), (.mov (.t 17)), none, []⟩, ⟨(some 115), (.mov (.t 0)), none, []⟩, ⟨(some 116), (.mov (.t 17)), none, []⟩, ⟨(some 117), (.bin .sub (.t 116) (.c (.int .i64 1))), none, [3]⟩, ⟨(some 118), (.mov (.t 0)), none, []⟩, ⟨(some 119), (.mov (.t 17)), none, []⟩, ⟨(some 120), (.bin .sub (.t 119) (.c (.int .i64 1))), none, [6]⟩, ⟨(some 121), (.iaddr 1 (.t 118) (.t 120)), none, [5, 7]⟩, ⟨(some 122), (.load false 1 (.t 121)), none, [8]⟩, ⟨(some 123), (.mov (.t 0)), none, []⟩, ⟨(some 124), (.mov (.t 17)), none, []⟩, ⟨(some 125), (.iaddr 1 (.t 123) (.t 124)), none, [10, 11]⟩, ⟨(some 126), (.load false 1 (.t 125)), none, [12]⟩, ⟨(some 127), (.iaddr 1 (.t 113) (.t 114)), none, [0, 1, 0, 1, 5, 6, 7, 8, 9, 13]⟩, ⟨none, (.store 1 (.t 127) (.t 122)), none, [14, 9, 0, 1, 5, 6, 7, 8, 9, 13]⟩, ⟨(some 128), (.iaddr 1 (.t 115) (.t 117)), none, [2, 4, 0, 1, 2, 3, 4, 5, 6, 7, 8, 9, 10, 11, 12, 13, 14, 15]⟩, ⟨none, (.store 1 (.t 128) (.t 126)), none, [16, 13, 15, 0, 1, 2, 3, 4, 5, 6, 7, 8, 9, 10, 11, 12, 13, 14, 15]⟩] true (some [0, 14, 17]))) (.region [⟨(some 111), (.mov (.t 17)), none, []⟩, ⟨(some 112), (.bin .sub (.t 111) (.c (.int .i64 1))), none, []⟩, ⟨(some 17), (.mov (.t 112)), none, []⟩] false (some [0, 14, 17])))
def f_slices_symMergeCmpFunc_int_q8 : RC :=
  (.seq (.region [⟨(some 82), (.mov (.t 2)), none, []⟩, ⟨(some 15), (.mov (.t 82)), none, []⟩] false (some [0, 2, 4, 14, 15])) (.seq (.block 4 (.loop f_slices_symMergeCmpFunc_int_q6)) (.seq (.seq (.region [⟨(some 107), (.mov (.t 2)), none, []⟩, ⟨(some 17), (.mov (.t 107)), none, []⟩] false (some [0, 14, 17])) (.block 6 (.loop (.seq (.seq (.region [⟨(some 108), (.mov (.t 17)), none, []⟩, ⟨(some 109), (.mov (.t 14)), none, []⟩, ⟨(some 110), (.bin .gtr (.t 108) (.t 109)), none, []⟩] false (some [0, 14, 17, 110])) (.cond (.t 110) .skip (.exit 6))) f_slices_symMergeCmpFunc_int_q7)))) .ret)))
def f_slices_symMergeCmpFunc_int_q9 : RC :=
  (.cond (.t 140) (.seq (.region [⟨(some 141), (.mov (.t 19)), none, []⟩, ⟨(some 142), (.mov (.t 3)), none, []⟩, ⟨(some 143), (.bin .sub (.t 141) (.t 142)), none, []⟩, ⟨(some 20), (.mov (.t 143)), none, []⟩] false (some [0, 1, 2, 3, 4, 18, 19, 20])) (.region [⟨(some 144), (.mov (.t 18)), none, []⟩, ⟨(some 21), (.mov (.t 144)), none, []⟩] false (some [0, 1, 2, 3, 4, 18, 19, 20, 21]))) (.seq (.region [⟨(some 145), (.mov (.t 1)), none, []⟩, ⟨(some 20), (.mov (.t 145)), none, []⟩] false (some [0, 1, 2, 3, 4, 18, 19, 20])) (.region [⟨(some 146), (.mov (.t 2)), none, []⟩, ⟨(some 21), (.mov (.t 146)), none, []⟩] false (some [0, 1, 2, 3, 4, 18, 19, 20, 21]))))
def f_slices_symMergeCmpFunc_int_q10 : RC :=
  (.seq (.region [⟨(some 158), (.mov (.t 4)), none, []⟩, ⟨(some 159), (.mov (.t 0)), none, []⟩, ⟨(some 160), (.mov (.t 22)), none, []⟩, ⟨(some 161), (.mov (.t 23)), none, []⟩, ⟨(some 162), (.bin .sub (.t 160) (.t 161)), none, [2, 3]⟩, ⟨(some 163), (.iaddr 1 (.t 159) (.t 162)), none, [1, 4]⟩, ⟨(some 164), (.load false 1 (.t 163)), none, [5]⟩, ⟨(some 165), (.mov (.t 0)), none, []⟩, ⟨(some 166), (.mov (.t 23)), none, []⟩, ⟨(some 167), (.iaddr 1 (.t 165) (.t 166)), none, [7, 8]⟩, ⟨(some 168), (.load false 1 (.t 167)), none, [9]⟩, ⟨(some 169), (.callv (.t 158) [(.t 164), (.t 168)]), none, [0, 6, 10]⟩, ⟨(some 170), (.bin .lss (.t 169) (.c (.int .i64 0))), none, [11]⟩, ⟨(some 171), (.not (.t 170)), none, [12]⟩] true (some [0, 1, 2, 3, 4, 18, 19, 20, 21, 22, 23, 171])) (.cond (.t 171) (.region [⟨(some 172), (.mov (.t 23)), none, []⟩, ⟨(some 173), (.bin .add (.t 172) (.c (.int .i64 1))), none, []⟩, ⟨(some 20), (.mov (.t 173)), none, []⟩] false (some [0, 1, 2, 3, 4, 18, 19, 20, 21, 22])) (.region [⟨(some 174), (.mov (.t 23)), none, []⟩, ⟨(some 21), (.mov (.t 174)), none, []⟩] false (some [0, 1, 2, 3, 4, 18, 19, 20, 21, 22]))))
def f_slices_symMergeCmpFunc_int_q11 : RC :=
  (.seq (.seq (.region [⟨(some 149), (.mov (.t 20)), none, []⟩, ⟨(some 150), (.mov (.t 21)), none, []⟩, ⟨(some 151), (.bin .lss (.t 149) (.t 150)), none, []⟩] false (some [0, 1, 2, 3, 4, 18, 19, 20, 21, 22, 151])) (.cond (.t 151) .skip (.exit 8))) (.block 9 (.seq (.region [⟨(some 152), (.mov (.t 20)), none, []⟩, ⟨(some 153), (.mov (.t 21)), none, []⟩, ⟨(some 154), (.bin .add (.t 152) (.t 153)), none, []⟩, ⟨(some 155), (.conv .u64 (.t 154)), none, []⟩, ⟨(some 156), (.bin .shr (.t 155) (.c (.int .u64 1))), none, []⟩, ⟨(some 157), (.conv .i64 (.t 156)), none, []⟩, ⟨(some 23), (.mov (.t 157)), none, []⟩] false (some [0, 1, 2, 3, 4, 18, 19, 20, 21, 22, 23])) f_slices_symMergeCmpFunc_int_q10)))
def f_slices_symMergeCmpFunc_int_q12 : RC :=
  (.seq (.region [⟨(some 206), (.mov (.t 18)), none, []⟩, ⟨(some 207), (.mov (.t 24)), none, []⟩, ⟨(some 208), (.bin .lss (.t 206) (.t 207)), none, []⟩, ⟨(some 209), (.mov (.t 208)), none, []⟩, ⟨(some 210), (.mov (.t 24)), (some (209, true)), []⟩, ⟨(some 211), (.mov (.t 3)), (some (209, true)), []⟩, ⟨(some 212), (.bin .lss (.t 210) (.t 211)), (some (209, true)), []⟩, ⟨(some 213), (.pick (.t 209) (.t 212) (.c (.bool false))), none, []⟩] false (some [0, 3, 4, 18, 24, 213])) (.cond (.t 213) (.region [⟨(some 214), (.mov (.t 0)), none, []⟩, ⟨(some 215), (.mov (.t 18)), none, []⟩, ⟨(some 216), (.mov (.t 24)), none, []⟩, ⟨(some 217), (.mov (.t 3)), none, []⟩, ⟨(some 218), (.mov (.t 4)), none, []⟩, ⟨(some 219), (.call 55 [(.t 214), (.t 215), (.t 216), (.t 217), (.t 218)]), none, []⟩] false (some [])) .skip))
def f_slices_symMergeCmpFunc_int_q13 : RC :=
  (.seq (.seq (.region [⟨(some 192), (.mov (.t 1)), none, []⟩, ⟨(some 193), (.mov (.t 20)), none, []⟩, ⟨(some 194), (.bin .lss (.t 192) (.t 193)), none, []⟩, ⟨(some 195), (.mov (.t 194)), none, []⟩, ⟨(some 196), (.mov (.t 20)), (some (195, true)), []⟩, ⟨(some 197), (.mov (.t 18)), (some (195, true)), []⟩, ⟨(some 198), (.bin .lss (.t 196) (.t 197)), (some (195, true)), []⟩, ⟨(some 199), (.pick (.t 195) (.t 198) (.c (.bool false))), none, []⟩] false (some [0, 1, 3, 4, 18, 20, 24, 199])) (.cond (.t 199) (.region [⟨(some 200), (.mov (.t 0)), none, []⟩, ⟨(some 201), (.mov (.t 1)), none, []⟩, ⟨(some 202), (.mov (.t 20)), none, []⟩, ⟨(some 203), (.mov (.t 18)), none, []⟩, ⟨(some 204), (.mov (.t 4)), none, []⟩, ⟨(some 205), (.call 55 [(.t 200), (.t 201), (.t 202), (.t 203), (.t 204)]), none, []⟩] false (some [0, 3, 4, 18, 24])) .skip)) f_slices_symMergeCmpFunc_int_q12)
def f_slices_symMergeCmpFunc_int_q14 : RC :=
  (.seq (.seq (.region [⟨(some 178), (.mov (.t 20)), none, []⟩, ⟨(some 179), (.mov (.t 2)), none, []⟩, ⟨(some 180), (.bin .lss (.t 178) (.t 179)), none, []⟩, ⟨(some 181), (.mov (.t 180)), none, []⟩, ⟨(some 182), (.mov (.t 2)), (some (181, true)), []⟩, ⟨(some 183), (.mov (.t 24)), (some (181, true)), []⟩, ⟨(some 184), (.bin .lss (.t 182) (.t 183)), (some (181, true)), []⟩, ⟨(some 185), (.pick (.t 181) (.t 184) (.c (.bool false))), none, []⟩] false (some [0, 1, 2, 3, 4, 18, 20, 24, 185])) (.cond (.t 185) (.region [⟨(some 186), (.mov (.t 0)), none, []⟩, ⟨(some 187), (.mov (.t 20)), none, []⟩, ⟨(some 188), (.mov (.t 2)), none, []⟩, ⟨(some 189), (.mov (.t 24)), none, []⟩, ⟨(some 190), (.mov (.t 4)), none, []⟩, ⟨(some 191), (.call 66 [(.t 186), (.t 187), (.t 188), (.t 189), (.t 190)]), none, []⟩] false (some [0, 1, 3, 4, 18, 20, 24])) .skip)) f_slices_symMergeCmpFunc_int_q13)
def f_slices_symMergeCmpFunc_int_q15 : RC :=
  (.seq (.region [⟨(some 147), (.mov (.t 19)), none, []⟩, ⟨(some 148), (.bin .sub (.t 147) (.c (.int .i64 1))), none, []⟩, ⟨(some 22), (.mov (.t 148)), none, []⟩] false (some [0, 1, 2, 3, 4, 18, 19, 20, 21, 22])) (.seq (.block 8 (.loop f_slices_symMergeCmpFunc_int_q11)) (.seq (.region [⟨(some 175), (.mov (.t 19)), none, []⟩, ⟨(some 176), (.mov (.t 20)), none, []⟩, ⟨(some 177), (.bin .sub (.t 175) (.t 176)), none, []⟩, ⟨(some 24), (.mov (.t 177)), none, []⟩] false (some [0, 1, 2, 3, 4, 18, 20, 24])) f_slices_symMergeCmpFunc_int_q14)))
def f_slices_symMergeCmpFunc_int_q16 : RC :=
  (.seq (.region [⟨(some 135), (.mov (.t 18)), none, []⟩, ⟨(some 136), (.mov (.t 2)), none, []⟩, ⟨(some 137), (.bin .add (.t 135) (.t 136)), none, []⟩, ⟨(some 19), (.mov (.t 137)), none, []⟩] false (some [0, 1, 2, 3, 4, 18, 19])) (.seq (.region [⟨(some 20), (.mov (.c (.int .i64 0))), none, []⟩, ⟨(some 21), (.mov (.c (.int .i64 0))), none, []⟩] false (some [0, 1, 2, 3, 4, 18, 19])) (.seq (.seq (.region [⟨(some 138), (.mov (.t 2)), none, []⟩, ⟨(some 139), (.mov (.t 18)), none, []⟩, ⟨(some 140), (.bin .gtr (.t 138) (.t 139)), none, []⟩] false (some [0, 1, 2, 3, 4, 18, 19, 140])) f_slices_symMergeCmpFunc_int_q9) f_slices_symMergeCmpFunc_int_q15)))
def f_slices_symMergeCmpFunc_int_q17 : RC :=
  (.seq (.seq (.region [⟨(some 77), (.mov (.t 3)), none, []⟩, ⟨(some 78), (.mov (.t 2)), none, []⟩, ⟨(some 79), (.bin .sub (.t 77) (.t 78)), none, []⟩, ⟨(some 80), (.bin .eql (.t 79) (.c (.int .i64 1))), none, []⟩] false (some [0, 1, 2, 3, 4, 80])) (.cond (.t 80) (.seq (.region [⟨(some 81), (.mov (.t 1)), none, []⟩, ⟨(some 14), (.mov (.t 81)), none, []⟩] false (some [0, 2, 4, 14])) f_slices_symMergeCmpFunc_int_q8) .skip)) (.seq (.region [⟨(some 129), (.mov (.t 1)), none, []⟩, ⟨(some 130), (.mov (.t 3)), none, []⟩, ⟨(some 131), (.bin .add (.t 129) (.t 130)), none, []⟩, ⟨(some 132), (.conv .u64 (.t 131)), none, []⟩, ⟨(some 133), (.bin .shr (.t 132) (.c (.int .u64 1))), none, []⟩, ⟨(some 134), (.conv .i64 (.t 133)), none, []⟩, ⟨(some 18), (.mov (.t 134)), none, []⟩] false (some [0, 1, 2, 3, 4, 18])) f_slices_symMergeCmpFunc_int_q16))
/-- slices.symMergeCmpFunc[int]: number 55 -/
def f_slices_symMergeCmpFunc_int : RF :=
  ⟨5, 220, [], (.seq (.seq (.region [⟨(some 25), (.mov (.t 2)), none, []⟩, ⟨(some 26), (.mov (.t 1)), none, []⟩, ⟨(some 27), (.bin .sub (.t 25) (.t 26)), none, []⟩, ⟨(some 28), (.bin .eql (.t 27) (.c (.int .i64 1))), none, []⟩] false (some [0, 1, 2, 3, 4, 28])) (.cond (.t 28) (.seq (.region [⟨(some 29), (.mov (.t 2)), none, []⟩, ⟨(some 10), (.mov (.t 29)), none, []⟩] false (some [0, 1, 3, 4, 10])) (.seq (.region [⟨(some 30), (.mov (.t 3)), none, []⟩, ⟨(some 11), (.mov (.t 30)), none, []⟩] false (some [0, 1, 4, 10, 11])) f_slices_symMergeCmpFunc_int_q4)) .skip)) f_slices_symMergeCmpFunc_int_q17)⟩

/-- slices.rotateCmpFunc[int]: number 66 -/
def f_slices_rotateCmpFunc_int : RF :=
  ⟨5, 58, [], (.seq (.region [⟨(some 12), (.mov (.t 2)), none, []⟩, ⟨(some 13), (.mov (.t 1)), none, []⟩, ⟨(some 14), (.bin .sub (.t 12) (.t 13)), none, []⟩, ⟨(some 10), (.mov (.t 14)), none, []⟩] false (some [0, 2, 3, 4, 10])) (.seq (.region [⟨(some 15), (.mov (.t 3)), none, []⟩, ⟨(some 16), (.mov (.t 2)), none, []⟩, ⟨(some 17), (.bin .sub (.t 15) (.t 16)), none, []⟩, ⟨(some 11), (.mov (.t 17)), none, []⟩] false (some [0, 2, 4, 10, 11])) (.seq (.block 0 (.loop (.seq (.seq (.region [⟨(some 18), (.mov (.t 10)), none, []⟩, ⟨(some 19), (.mov (.t 11)), none, []⟩, ⟨(some 20), (.bin .neq (.t 18) (.t 19)), none, []⟩] false (some [0, 2, 4, 10, 11, 20])) (.cond (.t 20) .skip (.exit 0))) (.block 1 (.seq (.region [⟨(some 21), (.mov (.t 10)), none, []⟩, ⟨(some 22), (.mov (.t 11)), none, []⟩, ⟨(some 23), (.bin .gtr (.t 21) (.t 22)), none, []⟩] false (some [0, 2, 4, 10, 11, 23])) (.cond (.t 23) (.seq (.region [⟨(some 24), (.mov (.t 0)), none, []⟩, ⟨(some 25), (.mov (.t 2)), none, []⟩, ⟨(some 26), (.mov (.t 10)), none, []⟩, ⟨(some 27), (.bin .sub (.t 25) (.t 26)), none, []⟩, ⟨(some 28), (.mov (.t 2)), none, []⟩, ⟨(some 29), (.mov (.t 11)), none, []⟩, ⟨(some 30), (.mov (.t 4)), none, []⟩, ⟨(some 31), (.call 77 [(.t 24), (.t 27), (.t 28), (.t 29), (.t 30)]), none, []⟩] false (some [0, 2, 4, 10, 11])) (.region [⟨(some 32), (.mov (.t 10)), none, []⟩, ⟨(some 33), (.mov (.t 11)), none, []⟩, ⟨(some 34), (.bin .sub (.t 32) (.t 33)), none, []⟩, ⟨(some 10), (.mov (.t 34)), none, []⟩] false (some [0, 2, 4, 10, 11]))) (.seq (.region [⟨(some 35), (.mov (.t 0)), none, []⟩, ⟨(some 36), (.mov (.t 2)), none, []⟩, ⟨(some 37), (.mov (.t 10)), none, []⟩, ⟨(some 38), (.bin .sub (.t 36) (.t 37)), none, []⟩, ⟨(some 39), (.mov (.t 2)), none, []⟩, ⟨(some 40), (.mov (.t 11)), none, []⟩, ⟨(some 41), (.bin .add (.t 39) (.t 40)), none, []⟩, ⟨(some 42), (.mov (.t 10)), none, []⟩, ⟨(some 43), (.bin .sub (.t 41) (.t 42)), none, []⟩, ⟨(some 44), (.mov (.t 10)), none, []⟩, ⟨(some 45), (.mov (.t 4)), none, []⟩, ⟨(some 46), (.call 77 [(.t 35), (.t 38), (.t 43), (.t 44), (.t 45)]), none, []⟩] false (some [0, 2, 4, 10, 11])) (.region [⟨(some 47), (.mov (.t 11)), none, []⟩, ⟨(some 48), (.mov (.t 10)), none, []⟩, ⟨(some 49), (.bin .sub (.t 47) (.t 48)), none, []⟩, ⟨(some 11), (.mov (.t 49)), none, []⟩] false (some [0, 2, 4, 10, 11]))))))))) (.region [⟨(some 50), (.mov (.t 0)), none, []⟩, ⟨(some 51), (.mov (.t 2)), none, []⟩, ⟨(some 52), (.mov (.t 10)), none, []⟩, ⟨(some 53), (.bin .sub (.t 51) (.t 52)), none, []⟩, ⟨(some 54), (.mov (.t 2)), none, []⟩, ⟨(some 55), (.mov (.t 10)), none, []⟩, ⟨(some 56), (.mov (.t 4)), none, []⟩, ⟨(some 57), (.call 77 [(.t 50), (.t 53), (.t 54), (.t 55), (.t 56)]), none, []⟩] false (some [])))))⟩

/-- slices.swapRangeCmpFunc[int]: number 77 -/
def f_slices_swapRangeCmpFunc_int : RF :=
  ⟨5, 38, [], (.seq (.region [⟨(some 10), (.mov (.c (.int .i64 0))), none, []⟩] false (some [0, 1, 2, 3, 10])) (.block 0 (.loop (.seq (.seq (.region [⟨(some 11), (.mov (.t 10)), none, []⟩, ⟨(some 12), (.mov (.t 3)), none, []⟩, ⟨(some 13), (.bin .lss (.t 11) (.t 12)), none, []⟩] false (some [0, 1, 2, 3, 10, 13])) (.cond (.t 13) .skip (.exit 0))) (.seq (.block 1 (.region [⟨(some 16), (.mov (.t 0)), none, []⟩, ⟨(some 17), (.mov (.t 1)), none, []⟩, ⟨(some 18), (.mov (.t 10)), none, []⟩, ⟨(some 19), (.bin .add (.t 17) (.t 18)), none, [1, 2]⟩, ⟨(some 20), (.mov (.t 0)), none, []⟩, ⟨(some 21), (.mov (.t 2)), none, []⟩, ⟨(some 22), (.mov (.t 10)), none, []⟩, ⟨(some 23), (.bin .add (.t 21) (.t 22)), none, [5, 6]⟩, ⟨(some 24), (.mov (.t 0)), none, []⟩, ⟨(some 25), (.mov (.t 2)), none, []⟩, ⟨(some 26), (.mov (.t 10)), none, []⟩, ⟨(some 27), (.bin .add (.t 25) (.t 26)), none, [9, 10]⟩, ⟨(some 28), (.iaddr 1 (.t 24) (.t 27)), none, [8, 11]⟩, ⟨(some 29), (.load false 1 (.t 28)), none, [12]⟩, ⟨(some 30), (.mov (.t 0)), none, []⟩, ⟨(some 31), (.mov (.t 1)), none, []⟩, ⟨(some 32), (.mov (.t 10)), none, []⟩, ⟨(some 33), (.bin .add (.t 31) (.t 32)), none, [15, 16]⟩, ⟨(some 34), (.iaddr 1 (.t 30) (.t 33)), none, [14, 17]⟩, ⟨(some 35), (.load false 1 (.t 34)), none, [18]⟩, ⟨(some 36), (.iaddr 1 (.t 16) (.t 19)), none, [0, 3, 0, 1, 2, 3, 8, 9, 10, 11, 12, 13, 19]⟩, ⟨none, (.store 1 (.t 36) (.t 29)), none, [20, 13, 0, 1, 2, 3, 8, 9, 10, 11, 12, 13, 19]⟩, ⟨(some 37), (.iaddr 1 (.t 20) (.t 23)), none, [4, 7, 0, 1, 2, 3, 4, 5, 6, 7, 8, 9, 10, 11, 12, 13, 14, 15, 16, 17, 18, 19, 20, 21]⟩, ⟨none, (.store 1 (.t 37) (.t 35)), none, [22, 19, 21, 0, 1, 2, 3, 4, 5, 6, 7, 8, 9, 10, 11, 12, 13, 14, 15, 16, 17, 18, 19, 20, 21]⟩] true (some [0, 1, 2, 3, 10]))) (.region [⟨(some 14), (.mov (.t 10)), none, []⟩, ⟨(some 15), (.bin .add (.t 14) (.c (.int .i64 1))), none, []⟩, ⟨(some 10), (.mov (.t 15)), none, []⟩] false (some [0, 1, 2, 3, 10])))))))⟩

end Go.Cs

namespace Go.Cs
def f_footmanlaw38_PrioSorts_q1 : RC :=
  (.seq (.region [⟨(some 25), (.mov (.t 7)), none, []⟩, ⟨(some 26), (.mov (.t 9)), none, []⟩, ⟨(some 27), (.bin .eql (.t 25) (.t 26)), none, [0, 1]⟩, ⟨(some 28), (.mov (.t 27)), none, [2]⟩, ⟨(some 29), (.mov (.t 8)), (some (28, true)), [3]⟩, ⟨(some 30), (.mov (.t 10)), (some (28, true)), [3]⟩, ⟨(some 31), (.bin .eql (.t 29) (.t 30)), (some (28, true)), [4, 5, 3]⟩, ⟨(some 32), (.pick (.t 28) (.t 31) (.c (.bool false))), none, [3, 6]⟩, ⟨(some 33), (.mov (.t 32)), none, [7, 3]⟩, ⟨(some 34), (.load true 2 (.t 5)), (some (33, true)), [8]⟩, ⟨(some 35), (.call 11 [(.t 34)]), (some (33, true)), [9, 8, 8]⟩, ⟨(some 36), (.load true 2 (.t 5)), (some (33, true)), [8]⟩, ⟨(some 37), (.call 12 [(.t 36)]), (some (33, true)), [11, 10, 8]⟩, ⟨(some 38), (.bin .eql (.t 35) (.t 37)), (some (33, true)), [10, 12, 8]⟩, ⟨(some 39), (.pick (.t 33) (.t 38) (.c (.bool false))), none, [8, 13]⟩, ⟨(some 40), (.mov (.t 39)), none, [14, 12]⟩, ⟨(some 41), (.load true 2 (.t 4)), (some (40, true)), [15]⟩, ⟨(some 42), (.load true 2 (.t 5)), (some (40, true)), [15]⟩, ⟨(some 43), (.call 13 [(.t 41), (.t 42)]), (some (40, true)), [16, 17, 15, 15]⟩, ⟨(some 44), (.load true 2 (.t 4)), (some (40, true)), [15]⟩, ⟨(some 45), (.load true 2 (.t 5)), (some (40, true)), [15]⟩, ⟨(some 46), (.call 14 [(.t 44), (.t 45)]), (some (40, true)), [19, 20, 18, 15]⟩, ⟨(some 47), (.eq false .bool (.t 43) (.t 46)), (some (40, true)), [18, 21, 15]⟩, ⟨(some 48), (.pick (.t 40) (.t 47) (.c (.bool false))), none, [15, 22]⟩, ⟨(some 49), (.mov (.t 48)), none, [23, 21]⟩, ⟨(some 50), (.mov (.t 0)), (some (49, true)), [24]⟩, ⟨(some 51), (.call 15 [(.t 50)]), (some (49, true)), [25, 24, 24]⟩, ⟨(some 52), (.call 16 [(.t 51)]), (some (49, true)), [26, 26, 24]⟩, ⟨(some 53), (.mov (.t 0)), (some (49, true)), [24]⟩, ⟨(some 54), (.call 17 [(.t 53)]), (some (49, true)), [28, 27, 24]⟩, ⟨(some 55), (.call 18 [(.t 52), (.t 54)]), (some (49, true)), [27, 29, 29, 24]⟩, ⟨(some 56), (.pick (.t 49) (.t 55) (.c (.bool false))), none, [24, 30]⟩, ⟨(some 57), (.mov (.t 56)), none, [31, 30]⟩, ⟨(some 58), (.call 19 []), (some (57, true)), [32, 32]⟩, ⟨(some 59), (.call 20 []), (some (57, true)), [33, 32]⟩, ⟨(some 60), (.eq false (.agg [0, 2]) (.t 58) (.t 59)), (some (57, true)), [33, 34, 32]⟩, ⟨(some 61), (.pick (.t 57) (.t 60) (.c (.bool false))), none, [32, 35]⟩, ⟨(some 62), (.mov (.t 61)), none, [36, 34]⟩, ⟨(some 63), (.call 8 []), (some (62, true)), [37, 37]⟩, ⟨(some 64), (.pick (.t 62) (.t 63) (.c (.bool false))), none, [37, 38]⟩, ⟨(some 6), (.mov (.t 64)), none, [39, 38, 0, 1, 2, 3, 4, 5, 6, 7, 8, 9, 10, 11, 12, 13, 14, 15, 16, 17, 18, 19, 20, 21, 22, 23, 24, 25, 26, 27, 28, 29, 30, 31, 32, 33, 34, 35, 36, 37, 38, 39]⟩] true (some [6])) .ret)
def f_footmanlaw38_PrioSorts_q2 : RC :=
  (.seq (.region [⟨(some 16), (.load true 2 (.t 4)), none, []⟩, ⟨(some 17), (.call 9 [(.t 16)]), none, []⟩, ⟨(some 15), (.mov (.t 17)), none, []⟩, ⟨(some 18), (.ext 0 (.t 15)), none, []⟩, ⟨(some 19), (.ext 1 (.t 15)), none, []⟩, ⟨(some 7), (.mov (.t 18)), none, []⟩, ⟨(some 8), (.mov (.t 19)), none, []⟩] false (some [0, 4, 5, 7, 8])) (.seq (.region [⟨(some 21), (.load true 2 (.t 4)), none, []⟩, ⟨(some 22), (.call 10 [(.t 21)]), none, []⟩, ⟨(some 20), (.mov (.t 22)), none, []⟩, ⟨(some 23), (.ext 0 (.t 20)), none, []⟩, ⟨(some 24), (.ext 1 (.t 20)), none, []⟩, ⟨(some 9), (.mov (.t 23)), none, []⟩, ⟨(some 10), (.mov (.t 24)), none, []⟩] false (some [0, 4, 5, 7, 8, 9, 10])) f_footmanlaw38_PrioSorts_q1))
/-- footman/footmanlaw38.PrioSorts: number 21 -/
def f_footmanlaw38_PrioSorts : RF :=
  ⟨3, 65, [(.t 6)], (.seq (.region [⟨(some 4), (.box 2 (.t 1)), none, []⟩, ⟨(some 5), (.box 2 (.t 2)), none, []⟩, ⟨(some 6), (.mov (.c (.bool false))), none, []⟩] false (some [0, 4, 5])) (.seq (.seq (.region [⟨(some 11), (.mov (.t 0)), none, []⟩, ⟨(some 12), (.len (.t 11)), none, []⟩, ⟨(some 13), (.bin .gtr (.t 12) (.c (.int .i64 60))), none, []⟩] false (some [0, 4, 5, 13])) (.cond (.t 13) (.seq (.region [⟨(some 14), (.call 8 []), none, []⟩, ⟨(some 6), (.mov (.t 14)), none, []⟩] false (some [6])) .ret) .skip)) f_footmanlaw38_PrioSorts_q2))⟩

def f_footmanref38_Print_q1 : RC :=
  (.region [⟨(some 14), (.faddr 0 (.t 1)), none, []⟩, ⟨(some 15), (.load false 1 (.t 14)), none, []⟩, ⟨(some 16), (.conv .u8 (.t 15)), none, []⟩, ⟨(some 17), (.bin .add (.c (.int .u8 48)) (.t 16)), none, []⟩, ⟨(some 18), (.lit false 1 1 [(.int .u8 0)] [(0, (1, (.t 17)))]), none, []⟩, ⟨(some 19), (.b2s (.t 18)), none, []⟩, ⟨(some 20), (.bin .add (.c (.str [117, 61])) (.t 19)), none, []⟩, ⟨(some 5), (.mov (.t 20)), none, []⟩] false (some [1, 5]))
def f_footmanref38_Print_q2 : RC :=
  (.cond (.t 21) (.seq (.region [⟨(some 25), (.mov (.t 5)), none, []⟩, ⟨(some 2), (.mov (.t 25)), none, []⟩, ⟨(some 3), (.mov (.c (.int .i64 0))), none, []⟩] false (some [2, 3])) .ret) (.seq (.region [⟨(some 27), (.mov (.t 5)), none, []⟩, ⟨(some 28), (.bin .eql (.t 27) (.c (.str []))), none, []⟩, ⟨(some 26), (.mov (.t 28)), none, []⟩] false (some [5, 26])) (.cond (.t 26) (.seq (.region [⟨(some 2), (.mov (.c (.str [105]))), none, []⟩, ⟨(some 3), (.mov (.c (.int .i64 0))), none, []⟩] false (some [2, 3])) .ret) .skip)))
def f_footmanref38_Print_q3 : RC :=
  (.seq (.block 0 (.seq (.region [⟨(some 22), (.faddr 1 (.t 1)), none, []⟩, ⟨(some 23), (.load false 1 (.t 22)), none, []⟩, ⟨(some 24), (.not (.t 23)), none, []⟩, ⟨(some 21), (.mov (.t 24)), none, []⟩] false (some [5, 21])) f_footmanref38_Print_q2)) (.seq (.region [⟨(some 29), (.mov (.t 5)), none, []⟩, ⟨(some 30), (.bin .add (.t 29) (.c (.str [44, 32, 105]))), none, []⟩, ⟨(some 2), (.mov (.t 30)), none, []⟩, ⟨(some 3), (.mov (.c (.int .i64 0))), none, []⟩] false (some [2, 3])) .ret))
def f_footmanref38_Print_q4 : RC :=
  (.seq (.seq (.region [⟨(some 8), (.mov (.t 4)), none, []⟩, ⟨(some 9), (.bin .neq (.t 8) (.c (.int .i64 0))), none, []⟩] false (some [1, 4, 9])) (.cond (.t 9) (.seq (.region [⟨(some 10), (.mov (.t 4)), none, []⟩, ⟨(some 2), (.mov (.c (.str []))), none, []⟩, ⟨(some 3), (.mov (.t 10)), none, []⟩] false (some [2, 3])) .ret) .skip)) (.seq (.region [⟨(some 5), (.mov (.c (.str []))), none, []⟩] false (some [1, 5])) (.seq (.seq (.region [⟨(some 11), (.faddr 0 (.t 1)), none, []⟩, ⟨(some 12), (.load false 1 (.t 11)), none, []⟩, ⟨(some 13), (.bin .neq (.t 12) (.c (.int .i64 3))), none, []⟩] false (some [1, 5, 13])) (.cond (.t 13) f_footmanref38_Print_q1 .skip)) f_footmanref38_Print_q3)))
/-- footman/footmanref38.Print: number 10 -/
def f_footmanref38_Print : RF :=
  ⟨1, 31, [(.t 2), (.t 3)], (.seq (.region [⟨(some 1), (.box 2 (.t 0)), none, []⟩, ⟨(some 2), (.mov (.c (.str []))), none, []⟩, ⟨(some 3), (.mov (.c (.int .i64 0))), none, []⟩] false (some [1])) (.seq (.region [⟨(some 6), (.load true 2 (.t 1)), none, []⟩, ⟨(some 7), (.call 12 [(.t 6)]), none, []⟩, ⟨(some 4), (.mov (.t 7)), none, []⟩] false (some [1, 4])) f_footmanref38_Print_q4))⟩

/-- footman/footmanref38.Check: number 12 -/
def f_footmanref38_Check : RF :=
  ⟨1, 11, [(.t 2)], (.seq (.region [⟨(some 1), (.box 2 (.t 0)), none, []⟩, ⟨(some 2), (.mov (.c (.int .i64 0))), none, []⟩] false (some [1])) (.seq (.seq (.region [⟨(some 3), (.faddr 0 (.t 1)), none, []⟩, ⟨(some 4), (.load false 1 (.t 3)), none, []⟩, ⟨(some 5), (.bin .lss (.t 4) (.c (.int .i64 0))), none, []⟩, ⟨(some 6), (.mov (.t 5)), none, []⟩, ⟨(some 7), (.faddr 0 (.t 1)), (some (6, false)), []⟩, ⟨(some 8), (.load false 1 (.t 7)), (some (6, false)), []⟩, ⟨(some 9), (.bin .gtr (.t 8) (.c (.int .i64 7))), (some (6, false)), []⟩, ⟨(some 10), (.pick (.t 6) (.c (.bool true)) (.t 9)), none, []⟩] false (some [10])) (.cond (.t 10) (.seq (.region [⟨(some 2), (.mov (.c (.int .i64 8))), none, []⟩] false (some [2])) .ret) .skip)) (.seq (.region [⟨(some 2), (.mov (.c (.int .i64 0))), none, []⟩] false (some [2])) .ret)))⟩

/-- footman/footmanref38.Less: number 14 -/
def f_footmanref38_Less : RF :=
  ⟨2, 22, [(.t 4)], (.seq (.region [⟨(some 2), (.box 2 (.t 0)), none, []⟩, ⟨(some 3), (.box 2 (.t 1)), none, []⟩, ⟨(some 4), (.mov (.c (.bool false))), none, []⟩] false (some [2, 3])) (.seq (.seq (.region [⟨(some 5), (.faddr 0 (.t 2)), none, []⟩, ⟨(some 6), (.load false 1 (.t 5)), none, []⟩, ⟨(some 7), (.faddr 0 (.t 3)), none, []⟩, ⟨(some 8), (.load false 1 (.t 7)), none, []⟩, ⟨(some 9), (.bin .neq (.t 6) (.t 8)), none, []⟩] false (some [2, 3, 9])) (.cond (.t 9) (.seq (.region [⟨(some 10), (.faddr 0 (.t 2)), none, []⟩, ⟨(some 11), (.load false 1 (.t 10)), none, []⟩, ⟨(some 12), (.faddr 0 (.t 3)), none, []⟩, ⟨(some 13), (.load false 1 (.t 12)), none, []⟩, ⟨(some 14), (.bin .lss (.t 11) (.t 13)), none, []⟩, ⟨(some 4), (.mov (.t 14)), none, []⟩] false (some [4])) .ret) .skip)) (.seq (.region [⟨(some 15), (.faddr 1 (.t 2)), none, []⟩, ⟨(some 16), (.load false 1 (.t 15)), none, []⟩, ⟨(some 17), (.not (.t 16)), none, []⟩, ⟨(some 18), (.mov (.t 17)), none, []⟩, ⟨(some 19), (.faddr 1 (.t 3)), (some (18, true)), []⟩, ⟨(some 20), (.load false 1 (.t 19)), (some (18, true)), []⟩, ⟨(some 21), (.pick (.t 18) (.t 20) (.c (.bool false))), none, []⟩, ⟨(some 4), (.mov (.t 21)), none, []⟩] false (some [4])) .ret)))⟩

/-- footman/footmanlaw38.own: number 15 -/
def f_footmanlaw38_own : RF :=
  ⟨1, 19, [(.t 2)], (.seq (.region [⟨(some 2), (.mov (.c .nils)), none, []⟩] false (some [0])) (.seq (.region [⟨(some 3), (.mov (.c .nils)), none, []⟩] false (some [0, 3])) (.seq (.seq (.region [⟨(some 4), (.mov (.c (.int .i64 0))), none, []⟩] false (some [0, 3, 4])) (.block 0 (.loop (.seq (.seq (.region [⟨(some 5), (.mov (.t 4)), none, []⟩, ⟨(some 6), (.mov (.t 0)), none, []⟩, ⟨(some 7), (.len (.t 6)), none, []⟩, ⟨(some 8), (.bin .lss (.t 5) (.t 7)), none, []⟩] false (some [0, 3, 4, 8])) (.cond (.t 8) .skip (.exit 0))) (.seq (.block 1 (.region [⟨(some 11), (.mov (.t 3)), none, []⟩, ⟨(some 12), (.mov (.t 0)), none, []⟩, ⟨(some 13), (.mov (.t 4)), none, []⟩, ⟨(some 14), (.iaddr 2 (.t 12) (.t 13)), none, []⟩, ⟨(some 15), (.load true 2 (.t 14)), none, []⟩, ⟨(some 16), (.lit false 2 1 [(.int .i64 0), (.bool false)] [(0, (2, (.t 15)))]), none, []⟩, ⟨(some 17), (.app 2 (.t 11) (.t 16)), none, []⟩, ⟨(some 3), (.mov (.t 17)), none, []⟩] false (some [0, 3, 4]))) (.region [⟨(some 9), (.mov (.t 4)), none, []⟩, ⟨(some 10), (.bin .add (.t 9) (.c (.int .i64 1))), none, []⟩, ⟨(some 4), (.mov (.t 10)), none, []⟩] false (some [0, 3, 4]))))))) (.seq (.region [⟨(some 18), (.mov (.t 3)), none, []⟩, ⟨(some 2), (.mov (.t 18)), none, []⟩] false (some [2])) .ret))))⟩

def f_footmanref38_Sort_q1 : RC :=
  (.seq (.seq (.region [⟨(some 15), (.mov (.t 5)), none, []⟩, ⟨(some 16), (.bin .gtr (.t 15) (.c (.int .i64 0))), none, [0]⟩, ⟨(some 17), (.mov (.t 16)), none, [1]⟩, ⟨(some 18), (.mov (.t 0)), (some (17, true)), [2]⟩, ⟨(some 19), (.mov (.t 4)), (some (17, true)), [2]⟩, ⟨(some 20), (.iaddr 2 (.t 18) (.t 19)), (some (17, true)), [3, 4, 2]⟩, ⟨(some 21), (.load true 2 (.t 20)), (some (17, true)), [5, 2]⟩, ⟨(some 22), (.mov (.t 0)), (some (17, true)), [2]⟩, ⟨(some 23), (.mov (.t 3)), (some (17, true)), [2]⟩, ⟨(some 24), (.mov (.t 5)), (some (17, true)), [2]⟩, ⟨(some 25), (.bin .sub (.t 24) (.c (.int .i64 1))), (some (17, true)), [9, 2]⟩, ⟨(some 26), (.iaddr 1 (.t 23) (.t 25)), (some (17, true)), [8, 10, 2]⟩, ⟨(some 27), (.load false 1 (.t 26)), (some (17, true)), [11, 2]⟩, ⟨(some 28), (.iaddr 2 (.t 22) (.t 27)), (some (17, true)), [7, 12, 2]⟩, ⟨(some 29), (.load true 2 (.t 28)), (some (17, true)), [13, 2]⟩, ⟨(some 30), (.call 14 [(.t 21), (.t 29)]), (some (17, true)), [6, 14, 2, 2]⟩, ⟨(some 31), (.pick (.t 17) (.t 30) (.c (.bool false))), none, [2, 15]⟩] true (some [0, 3, 4, 5, 31])) (.cond (.t 31) .skip (.exit 2))) (.block 3 (.region [⟨(some 32), (.mov (.t 5)), none, []⟩, ⟨(some 33), (.bin .sub (.t 32) (.c (.int .i64 1))), none, []⟩, ⟨(some 5), (.mov (.t 33)), none, []⟩] false (some [0, 3, 4, 5]))))
def f_footmanref38_Sort_q2 : RC :=
  (.multi [⟨(some 34), (.mov (.t 6)), none, []⟩, ⟨(some 35), (.mov (.t 3)), none, []⟩, ⟨(some 36), (.mov (.t 5)), none, []⟩, ⟨(some 37), (.sub 1 (.t 35) none (some (.t 36)) none), none, [1, 2]⟩, ⟨(some 38), (.app 1 (.t 34) (.t 37)), none, [0, 3]⟩, ⟨(some 39), (.mov (.t 4)), none, []⟩, ⟨(some 40), (.lit false 1 1 [(.int .i64 0)] [(0, (1, (.t 39)))]), none, [5]⟩, ⟨(some 41), (.app 1 (.t 38) (.t 40)), none, [4, 6, 4]⟩, ⟨(some 42), (.mov (.t 3)), none, []⟩, ⟨(some 43), (.mov (.t 5)), none, []⟩, ⟨(some 44), (.sub 1 (.t 42) (some (.t 43)) none none), none, [8, 9]⟩, ⟨(some 45), (.app 1 (.t 41) (.t 44)), none, [7, 10, 7]⟩, ⟨(some 3), (.mov (.t 45)), none, [11, 11, 0, 1, 2, 3, 4, 5, 6, 7, 8, 9, 10, 11]⟩] [[0, 1, 2, 3, 4, 5, 6, 7, 8, 9, 10, 11, 12], [0, 1, 2, 3, 4, 5, 6, 8, 9, 10, 7, 11, 12], [0, 1, 2, 3, 8, 9, 10, 4, 5, 6, 7, 11, 12]] [0, 3, 4])
def f_footmanref38_Sort_q3 : RC :=
  (.seq (.block 1 (.seq (.region [⟨(some 13), (.mov (.t 3)), none, []⟩, ⟨(some 14), (.len (.t 13)), none, []⟩, ⟨(some 5), (.mov (.t 14)), none, []⟩] false (some [0, 3, 4, 5])) (.seq (.block 2 (.loop f_footmanref38_Sort_q1)) (.seq (.region [⟨(some 6), (.mov (.c .nils)), none, []⟩] false (some [0, 3, 4, 5, 6])) f_footmanref38_Sort_q2)))) (.region [⟨(some 11), (.mov (.t 4)), none, []⟩, ⟨(some 12), (.bin .add (.t 11) (.c (.int .i64 1))), none, []⟩, ⟨(some 4), (.mov (.t 12)), none, []⟩] false (some [0, 3, 4])))
def f_footmanref38_Sort_q4 : RC :=
  (.seq (.region [⟨(some 3), (.mov (.c .nils)), none, []⟩] false (some [0, 3])) (.seq (.seq (.region [⟨(some 4), (.mov (.c (.int .i64 0))), none, []⟩] false (some [0, 3, 4])) (.block 0 (.loop (.seq (.seq (.region [⟨(some 7), (.mov (.t 4)), none, []⟩, ⟨(some 8), (.mov (.t 0)), none, []⟩, ⟨(some 9), (.len (.t 8)), none, []⟩, ⟨(some 10), (.bin .lss (.t 7) (.t 9)), none, []⟩] false (some [0, 3, 4, 10])) (.cond (.t 10) .skip (.exit 0))) f_footmanref38_Sort_q3)))) (.seq (.region [⟨(some 46), (.mov (.t 3)), none, []⟩, ⟨(some 2), (.mov (.t 46)), none, []⟩] false (some [2])) .ret)))
/-- footman/footmanref38.Sort: number 17 -/
def f_footmanref38_Sort : RF :=
  ⟨1, 47, [(.t 2)], (.seq (.region [⟨(some 2), (.mov (.c .nils)), none, []⟩] false (some [0])) f_footmanref38_Sort_q4)⟩

/-- footman/footmanref38.Usual: number 20 -/
def f_footmanref38_Usual : RF :=
  ⟨0, 2, [(.c 0 true 2)], (.seq (.region [⟨(some 0), (.alloc [(.int .i64 0), (.bool false)]), none, []⟩] false (some [0])) (.seq (.region [⟨(some 1), (.build [(.int .i64 0), (.bool false)] [(0, (1, (.c (.int .i64 3))))]), none, []⟩, ⟨none, (.store 2 (.t 0) (.t 1)), none, []⟩] false (some [0])) .ret))⟩

end Go.Cs

/- The seat of prio: our numbers of its functions; each resolves to its printed form. -/
namespace Go.Cs
/-- Our numbers of the seat's functions. -/
def fidP : FuncId → Option Nat := fun f => ([(3, 21), (4, 25), (5, 8), (6, 9), (7, 10), (8, 11), (9, 12), (10, 13), (11, 14), (12, 18), (13, 16), (14, 15), (15, 17), (16, 19), (17, 20), (18, 22), (19, 23), (20, 24), (21, 26), (22, 27), (23, 28), (24, 30), (25, 29), (26, 31), (27, 32), (28, 33), (29, 34), (30, 35), (31, 36), (33, 53), (35, 37), (36, 38), (37, 39), (38, 41), (39, 40), (40, 42), (41, 44), (42, 43), (43, 46), (44, 45), (45, 47), (46, 48), (47, 49), (48, 50), (49, 51), (50, 52), (52, 54), (53, 55), (54, 56), (55, 57), (56, 58), (57, 59), (58, 60), (59, 61), (60, 62), (61, 63), (62, 64), (63, 65), (64, 75), (66, 76), (70, 66), (71, 67), (72, 68), (73, 69), (74, 70), (75, 71), (76, 72), (77, 73), (78, 74), (79, 79), (80, 80), (81, 81), (82, 82), (83, 85), (84, 77), (85, 86), (86, 87), (88, 89), (89, 78), (90, 83), (91, 84), (92, 88)] : List (Nat × Nat)).lookup f
theorem e_prio_Print : resF Go.Proofs.Tryd.prog fidP [] Go.Proofs.Tryd.f6 = some f_prio_Print.strip := by kernel_rfl
theorem e_prio_Check : resF Go.Proofs.Tryd.prog fidP [] Go.Proofs.Tryd.f8 = some f_prio_Check.strip := by kernel_rfl
theorem e_prio_Less : resF Go.Proofs.Tryd.prog fidP [] Go.Proofs.Tryd.f10 = some f_prio_Less.strip := by kernel_rfl
theorem e_prio_Usual : resF Go.Proofs.Tryd.prog fidP [] Go.Proofs.Tryd.f16 = some f_prio_Usual.strip := by kernel_rfl
theorem e_prio_Parse : resF Go.Proofs.Tryd.prog fidP [] Go.Proofs.Tryd.f18 = some f_prio_Parse.strip := by kernel_rfl
theorem e_prio_Merge : resF Go.Proofs.Tryd.prog fidP [] Go.Proofs.Tryd.f19 = some f_prio_Merge.strip := by kernel_rfl
theorem e_prio_Items : resF Go.Proofs.Tryd.prog fidP [] Go.Proofs.Tryd.f20 = some f_prio_Items.strip := by kernel_rfl
theorem e_prio_Prio_compare : resF Go.Proofs.Tryd.prog fidP [] Go.Proofs.Tryd.f23 = some f_prio_Prio_compare.strip := by kernel_rfl
theorem e_prio_Merge_1 : resF Go.Proofs.Tryd.prog fidP [] Go.Proofs.Tryd.f26 = some f_prio_Merge_1.strip := by kernel_rfl
theorem e_prio_number : resF Go.Proofs.Tryd.prog fidP [] Go.Proofs.Tryd.f27 = some f_prio_number.strip := by kernel_rfl
theorem e_prio_item : resF Go.Proofs.Tryd.prog fidP [] Go.Proofs.Tryd.f30 = some f_prio_item.strip := by kernel_rfl
theorem e_strings_CutPrefix : resF Go.Proofs.Tryd.prog fidP [] Go.Proofs.Tryd.f36 = some f_strings_CutPrefix.strip := by kernel_rfl
theorem e_prio_class : resF Go.Proofs.Tryd.prog fidP [] Go.Proofs.Tryd.f37 = some f_prio_class.strip := by kernel_rfl
theorem e_prio_word : resF Go.Proofs.Tryd.prog fidP [] Go.Proofs.Tryd.f47 = some f_prio_word.strip := by kernel_rfl
theorem e_prio_bare : resF Go.Proofs.Tryd.prog fidP [] Go.Proofs.Tryd.f48 = some f_prio_bare.strip := by kernel_rfl
theorem e_internal_stringslite_CutPrefix : resF Go.Proofs.Tryd.prog fidP [] Go.Proofs.Tryd.f54 = some f_internal_stringslite_CutPrefix.strip := by kernel_rfl
theorem e_internal_stringslite_HasPrefix : resF Go.Proofs.Tryd.prog fidP [] Go.Proofs.Tryd.f71 = some f_internal_stringslite_HasPrefix.strip := by kernel_rfl
theorem e_footmanlaw38_PrioBack : resF Go.Proofs.Tryd.prog fidP [] Go.Proofs.Tryd.f4 = some f_footmanlaw38_PrioBack.strip := by kernel_rfl
theorem e_footmanlaw38_awake : resF Go.Proofs.Tryd.prog fidP [] Go.Proofs.Tryd.f5 = some f_footmanlaw38_awake.strip := by kernel_rfl
theorem e_footmanref15_SameInts : resF Go.Proofs.Tryd.prog fidP [] Go.Proofs.Tryd.f12 = some f_footmanref15_SameInts.strip := by kernel_rfl
theorem e_prio_Sort : resF Go.Proofs.Tryd.prog fidP [] Go.Proofs.Tryd.f13 = some f_prio_Sort.strip := by kernel_rfl
theorem e_slices_SortStableFunc_int_int : resF Go.Proofs.Tryd.prog fidP [] Go.Proofs.Tryd.f24 = some f_slices_SortStableFunc_int_int.strip := by kernel_rfl
theorem e_prio_Sort_1 : resF Go.Proofs.Tryd.prog fidP [] Go.Proofs.Tryd.f25 = some f_prio_Sort_1.strip := by kernel_rfl
theorem e_slices_stableCmpFunc_int : resF Go.Proofs.Tryd.prog fidP [] Go.Proofs.Tryd.f35 = some f_slices_stableCmpFunc_int.strip := by kernel_rfl
theorem e_slices_insertionSortCmpFunc_int : resF Go.Proofs.Tryd.prog fidP [] Go.Proofs.Tryd.f52 = some f_slices_insertionSortCmpFunc_int.strip := by kernel_rfl
theorem e_slices_symMergeCmpFunc_int : resF Go.Proofs.Tryd.prog fidP [] Go.Proofs.Tryd.f53 = some f_slices_symMergeCmpFunc_int.strip := by kernel_rfl
theorem e_slices_rotateCmpFunc_int : resF Go.Proofs.Tryd.prog fidP [] Go.Proofs.Tryd.f70 = some f_slices_rotateCmpFunc_int.strip := by kernel_rfl
theorem e_slices_swapRangeCmpFunc_int : resF Go.Proofs.Tryd.prog fidP [] Go.Proofs.Tryd.f84 = some f_slices_swapRangeCmpFunc_int.strip := by kernel_rfl
theorem e_footmanlaw38_PrioSorts : resF Go.Proofs.Tryd.prog fidP [] Go.Proofs.Tryd.f3 = some f_footmanlaw38_PrioSorts.strip := by kernel_rfl
theorem e_footmanref38_Print : resF Go.Proofs.Tryd.prog fidP [] Go.Proofs.Tryd.f7 = some f_footmanref38_Print.strip := by kernel_rfl
theorem e_footmanref38_Check : resF Go.Proofs.Tryd.prog fidP [] Go.Proofs.Tryd.f9 = some f_footmanref38_Check.strip := by kernel_rfl
theorem e_footmanref38_Less : resF Go.Proofs.Tryd.prog fidP [] Go.Proofs.Tryd.f11 = some f_footmanref38_Less.strip := by kernel_rfl
theorem e_footmanlaw38_own : resF Go.Proofs.Tryd.prog fidP [] Go.Proofs.Tryd.f14 = some f_footmanlaw38_own.strip := by kernel_rfl
theorem e_footmanref38_Sort : resF Go.Proofs.Tryd.prog fidP [] Go.Proofs.Tryd.f15 = some f_footmanref38_Sort.strip := by kernel_rfl
theorem e_footmanref38_Usual : resF Go.Proofs.Tryd.prog fidP [] Go.Proofs.Tryd.f17 = some f_footmanref38_Usual.strip := by kernel_rfl

end Go.Cs

/- prio: its small functions, told as plain ones. -/
namespace Go.Cs
variable {K : Nat → Ct}

/-- prio.class: a byte's kind. -/
def clsM (n : Int) : Int := if 97 ≤ n ∧ n ≤ 122 then 1 else if 65 ≤ n ∧ n ≤ 90 then 2 else if 48 ≤ n ∧ n ≤ 57 then 4 else if n = 42 then 8 else 0
def clsF : List CV → Option CV
  | [.int .u8 n] => some (.int .i64 (clsM n))
  | _ => none

theorem class_runs : ∀ args v, clsF args = some v → args.length = f_prio_class.np ∧ ∀ cw, Runs K f_prio_class args cw v := by
  intro args v h
  unfold clsF at h
  split at h
  · rename_i n
    cases h
    refine ⟨rfl, fun cw Q hQ => ?_⟩
    have fin : ∀ m : Int, m = clsM n → Q .ret [(2, .int .i64 m)] cw := by
      rintro m rfl
      exact hQ .ret _ _ _ (.inr rfl) rfl (.int _ _) (fun _ _ => rfl)
    simp only [f_prio_class, go_sem, stepOp, go_sem]
    repeat' first
      | (refine fin _ ?_; simp only [clsM, decide_eq_true_eq, decide_eq_false_iff_not, ge_iff_le, beq_iff_eq, beq_eq_false_iff_ne, ne_eq] at *; split <;> (try split) <;> (try split) <;> (try split) <;> first | rfl | omega)
      | (refine wpif_of (fun hb => ?_) (fun hb => ?_) <;> simp only [go_sem, stepOp, hb, go_sem])
      | (refine wpb_of (fun hb => ?_) (fun hb => ?_) <;> simp only [go_sem, stepOp, hb, go_sem])

  · cases h

/-- prio.number's loop: what is left, and the number so far. -/
def numL : List UInt8 → Int → CV
  | [], n => .tup [.int .i64 n, .bool true]
  | c :: r, n => if clsM c.toNat = 4 then numL r (IntKind.wrap .i64 (IntKind.wrap .i64 (n * 10) + IntKind.wrap .i64 (IntKind.wrap .u8 (c.toNat - 48)))) else .tup [.int .i64 0, .bool false]
def negT : CV → CV
  | .tup [.int k n, .bool true] => .tup [.int k (k.wrap (0 - n)), .bool true]
  | c => c
def cutM (s p : List UInt8) : List UInt8 × Bool := if s.take p.length = p then (s.drop p.length, true) else (s, false)
def cutF : List CV → Option CV
  | [.str s, .str p] => some (.tup [.str (cutM s p).1, .bool (cutM s p).2])
  | _ => none
def numP (part : List UInt8) (below : Bool) : CV :=
  if part = [] ∨ 9 < part.length then .tup [.int .i64 0, .bool false] else if below then negT (numL part 0) else numL part 0
def numM (s : List UInt8) : CV := numP (cutM s [45]).1 (cutM s [45]).2
def numF : List CV → Option CV
  | [.str s] => some (numM s)
  | _ => none

theorem cell_at {l : List UInt8} {i : Nat} {c : UInt8} {r : List UInt8} (h : l.drop i = c :: r) : (byteCells l)[i]? = some (.int .u8 c.toNat) ∧ i < l.length ∧ l.drop (i + 1) = r := by
  have hlt : i < l.length := by
    rcases Nat.lt_or_ge i l.length with h' | h'
    · exact h'
    · rw [List.drop_of_length_le h'] at h; cases h
  rw [List.drop_eq_getElem_cons hlt] at h
  simp only [List.cons.injEq] at h
  refine ⟨?_, hlt, h.2⟩
  simp [byteCells, hlt, h.1]

theorem number_runs (h38 : K 38 = pureC cutF) (h39 : K 39 = pureC clsF) : ∀ args v, numF args = some v → args.length = f_prio_number.np ∧ ∀ cw, Runs K f_prio_number args cw v := by
  intro args v h
  unfold numF at h
  split at h
  · rename_i s
    cases h
    refine ⟨rfl, fun cw Q hQ => ?_⟩
    have fin : ∀ n b, CV.tup [.int .i64 n, .bool b] = numM s → Q .ret [(2, .int .i64 n), (3, .bool b)] cw := by
      intro n b e
      refine hQ .ret _ _ _ (.inr rfl) rfl ?_ (fun _ _ => rfl)
      rw [← e]
      exact frz_plain rfl
    simp only [f_prio_number, go_sem, stepOp, go_sem, wpa_pure h38, wpa_pure h39, cutF]
    unfold numM at fin
    clear hQ
    generalize cutM s [45] = pb at *
    obtain ⟨part, below⟩ := pb
    simp only at fin ⊢
    have bad : (part = [] ∨ 9 < part.length) → Q .ret [(2, .int .i64 0), (3, .bool false)] cw := fun hh => fin _ _ (by rw [numP, if_pos hh])
    cases he : (part == [])
    case true =>
      simp only [go_sem]
      exact bad (.inl (by simpa using he))
    simp only [go_sem]
    cases hl : decide ((part.length : Int) > 9)
    case true =>
      simp only [go_sem]
      exact bad (.inr (by simp only [decide_eq_true_eq] at hl; omega))
    have hpe : part ≠ [] := by simpa using he
    have hple : part.length ≤ 9 := by simp only [decide_eq_false_iff_not] at hl; omega
    have fin2 : ∀ n b, CV.tup [.int .i64 n, .bool b] = (if below then negT (numL part 0) else numL part 0) → Q .ret [(2, .int .i64 n), (3, .bool b)] cw := by
      intro n b e
      refine fin n b ?_
      have hneg : ¬ (part = [] ∨ 9 < part.length) := by
        rintro (h | h)
        · exact hpe h
        · omega
      rw [numP, if_neg hneg]
      exact e
    simp only [go_sem]
    refine wpk_loop (fun m ρ cw' => ∃ i n, m = part.length - i ∧ i ≤ part.length ∧ cw' = cw ∧ ρ = [(5, .bool below), (6, .int .i64 n), (22, .vec (byteCells part) part.length false), (23, .int .i64 part.length), (24, .int .i64 i)] ∧ numL (part.drop i) n = numL part 0) part.length
      ⟨0, 0, by omega, by omega, rfl, rfl, by simp⟩ ?_
    rintro m ρ cw' N ⟨i, n, rfl, hi, rfl, rfl, hn⟩ hN
    simp only [go_sem]
    cases hlt : decide ((i : Int) < part.length)
    case false =>
      simp only [decide_eq_false_iff_not] at hlt
      rw [List.drop_of_length_le (by omega)] at hn
      simp only [go_sem]
      cases below <;> simp only [go_sem] <;> refine fin2 _ _ ?_ <;> rw [← hn] <;> rfl
    simp only [decide_eq_true_eq] at hlt
    obtain ⟨c, r, hcr⟩ : ∃ c r, part.drop i = c :: r := ⟨_, _, List.drop_eq_getElem_cons (by omega)⟩
    obtain ⟨hat, _, hr⟩ := cell_at hcr
    have hin : 0 ≤ (i : Int) ∧ (i : Int) < part.length := ⟨by omega, hlt⟩
    rw [hcr] at hn
    simp only [numL] at hn
    simp only [go_sem, hin, hat, wpa_pure h39, clsF, and_self]
    cases hc : (clsM c.toNat != 4)
    case true =>
      rw [if_neg (by simpa using hc)] at hn
      simp only [go_sem]
      cases below <;> exact fin2 _ _ (by rw [← hn]; rfl)
    rw [if_pos (by simpa using hc)] at hn
    simp only [go_sem, wrap_i64 (n := (i : Int) + 1) (by omega) (by omega)]
    refine hN _ _ _ ?_ ⟨i + 1, _, rfl, by omega, rfl, rfl, ?_⟩
    · omega
    · rw [hr]; exact hn
  · cases h

end Go.Cs

/- prio: prefixes, words, bare values. -/
namespace Go.Cs
variable {K : Nat → Ct}

def hasF : List CV → Option CV
  | [.str s, .str p] => some (.bool (s.take p.length == p))
  | _ => none

theorem has_runs : ∀ args v, hasF args = some v → args.length = f_internal_stringslite_HasPrefix.np ∧ ∀ cw, Runs K f_internal_stringslite_HasPrefix args cw v := by
  intro args v h
  unfold hasF at h
  split at h
  · rename_i s p
    cases h
    refine ⟨rfl, fun cw Q hQ => ?_⟩
    have fin : ∀ b, b = (s.take p.length == p) → Q .ret [(4, .bool b)] cw := by
      rintro b rfl
      exact hQ .ret _ _ _ (.inr rfl) rfl (.bool _) (fun _ _ => rfl)
    clear hQ
    simp only [f_internal_stringslite_HasPrefix, go_sem]
    cases hl : decide ((s.length : Int) ≥ p.length)
    case false =>
      simp only [go_sem]
      refine fin _ ?_
      simp only [decide_eq_false_iff_not] at hl
      symm
      rw [beq_eq_false_iff_ne]
      intro h
      have := congrArg List.length h
      simp at this
      omega
    simp only [decide_eq_true_eq] at hl
    have h1 : 0 ≤ (0 : Int) ∧ (0 : Int) ≤ p.length ∧ (p.length : Int) ≤ s.length := ⟨by omega, by omega, hl⟩
    simp only [go_sem, h1]
    exact fin _ rfl
  · cases h

theorem cutS_runs (h67 : K 67 = pureC hasF) : ∀ args v, cutF args = some v → args.length = f_internal_stringslite_CutPrefix.np ∧ ∀ cw, Runs K f_internal_stringslite_CutPrefix args cw v := by
  intro args v h
  unfold cutF at h
  split at h
  · rename_i s p
    cases h
    refine ⟨rfl, fun cw Q hQ => ?_⟩
    have fin : ∀ l b, l = (cutM s p).1 → b = (cutM s p).2 → Q .ret [(4, .str l), (5, .bool b)] cw := by
      rintro l b rfl rfl
      exact hQ .ret _ _ _ (.inr rfl) rfl (frz_plain rfl) (fun _ _ => rfl)
    clear hQ
    simp only [f_internal_stringslite_CutPrefix, go_sem, wpa_pure h67, hasF]
    cases hp : (s.take p.length == p)
    case false =>
      simp only [go_sem]
      have : ¬ s.take p.length = p := by simpa using hp
      exact fin _ _ (by simp [cutM, this]) (by simp [cutM, this])
    have hp' : s.take p.length = p := by simpa using hp
    have hle : p.length ≤ s.length := by
      have := congrArg List.length hp'
      simp at this
      omega
    have h1 : 0 ≤ (p.length : Int) ∧ (p.length : Int) ≤ s.length ∧ (s.length : Int) ≤ s.length := ⟨by omega, by omega, by omega⟩
    simp only [go_sem, h1]
    exact fin _ _ (by simp [cutM, hp']) (by simp [cutM, hp'])
  · cases h

theorem cut_runs (h56 : K 56 = pureC cutF) : ∀ args v, cutF args = some v → args.length = f_strings_CutPrefix.np ∧ ∀ cw, Runs K f_strings_CutPrefix args cw v := by
  intro args v h
  unfold cutF at h
  split at h
  · rename_i s p
    cases h
    refine ⟨rfl, fun cw Q hQ => ?_⟩
    have fin : Q .ret [(4, .str (cutM s p).1), (5, .bool (cutM s p).2)] cw :=
      hQ .ret _ _ _ (.inr rfl) rfl (frz_plain rfl) (fun _ _ => rfl)
    simp only [f_strings_CutPrefix, go_sem, wpa_pure h56, cutF]
    exact fin
  · cases h

def idxF : List CV → Option CV
  | [.str o, .int .u8 n] => some (.int .i64 (Lib.indexByte o n.toNat.toUInt8))
  | _ => none

/-- May a byte stand in a word? -/
def wordB (k : Int) (o : List UInt8) (later : Bool) (c : UInt8) : Bool :=
  (andI .i64 (clsM c.toNat) k != 0) || (later && (clsM c.toNat == 4 || decide (0 ≤ Lib.indexByte o c.toNat.toUInt8)))
def wordL (k : Int) (o : List UInt8) : Bool → List UInt8 → Bool
  | _, [] => true
  | later, c :: r => wordB k o later c && wordL k o true r
def wordM (s : List UInt8) (k : Int) (o : List UInt8) : Bool := wordL k o false s && s != []
def wordF : List CV → Option CV
  | [.str s, .int .i64 k, .str o] => if s.length ≤ 100000 then some (.bool (wordM s k o)) else none
  | _ => none

theorem word_runs (h39 : K 39 = pureC clsF) (h65 : K 65 = pureC idxF) : ∀ args v, wordF args = some v → args.length = f_prio_word.np ∧ ∀ cw, Runs K f_prio_word args cw v := by
  intro args v h
  unfold wordF at h
  split at h
  · rename_i s k o
    split at h
    case isFalse => cases h
    rename_i hlen
    cases h
    refine ⟨rfl, fun cw Q hQ => ?_⟩
    have fin : ∀ b, b = wordM s k o → Q .ret [(6, .bool b)] cw := by
      rintro b rfl
      exact hQ .ret _ _ _ (.inr rfl) rfl (.bool _) (fun _ _ => rfl)
    clear hQ
    simp only [f_prio_word, go_sem]
    refine wpk_loop (fun m ρ cw' => ∃ i : Nat, m = s.length - i ∧ i ≤ s.length ∧ cw' = cw ∧ ρ = [(0, .str s), (1, .int .i64 k), (2, .str o), (11, .vec (byteCells s) s.length false), (12, .int .i64 s.length), (13, .int .i64 i)] ∧ wordL k o (decide (0 < i)) (s.drop i) = wordL k o false s) s.length
      ⟨0, by omega, by omega, rfl, rfl, by simp⟩ ?_
    rintro m ρ cw' N ⟨i, rfl, hi, rfl, rfl, hn⟩ hN
    simp only [go_sem]
    cases hlt : decide ((i : Int) < s.length)
    case false =>
      simp only [decide_eq_false_iff_not] at hlt
      rw [List.drop_of_length_le (by omega)] at hn
      simp only [go_sem]
      refine fin _ ?_
      simp only [wordL] at hn
      rw [wordM, ← hn]
      simp only [Bool.true_and, bne]
    simp only [decide_eq_true_eq] at hlt
    obtain ⟨c, r, hcr⟩ : ∃ c r, s.drop i = c :: r := ⟨_, _, List.drop_eq_getElem_cons (by omega)⟩
    obtain ⟨hat, _, hr⟩ := cell_at hcr
    have hin : 0 ≤ (i : Int) ∧ (i : Int) < s.length := ⟨by omega, hlt⟩
    have hsne : (s != []) = true := by
      rw [bne_iff_ne]; rintro rfl; simp at hcr
    rw [hcr] at hn
    simp only [wordL] at hn
    have good : wordB k o (decide (0 < i)) c = true → N [(0, .str s), (1, .int .i64 k), (2, .str o), (11, .vec (byteCells s) s.length false), (12, .int .i64 s.length), (13, .int .i64 ((i : Int) + 1))] cw' := by
      intro hb
      refine hN _ _ _ ?_ ⟨i + 1, rfl, by omega, rfl, rfl, ?_⟩
      · omega
      · rw [hr, ← hn, hb]
        simp
    have bad : wordB k o (decide (0 < i)) c = false → Q .ret [(6, .bool false)] cw' := by
      intro hb
      refine fin _ ?_
      rw [wordM, ← hn, hb]; simp
    unfold wordB at good bad
    simp only [go_sem, hin, hat, wpa_pure h39, clsF, and_self, wrap_i64 (n := (i : Int) + 1) (by omega) (by omega)]
    have hB : decide ((i : Int) > 0) = decide (0 < i) := by
      by_cases h0 : 0 < i
      · rw [decide_eq_true h0, decide_eq_true (by omega)]
      · rw [decide_eq_false h0, decide_eq_false (by omega)]
    rw [hB]
    generalize (andI .i64 (clsM c.toNat) k != 0) = A at *
    generalize decide (0 < i) = B at *
    have hcl : clsF [.int .u8 c.toNat] = some (.int .i64 (clsM c.toNat)) := rfl
    generalize hC : (clsM c.toNat == 4) = C at *
    generalize hD : decide (0 ≤ Lib.indexByte o c.toNat.toUInt8) = D at *
    clear hcl
    cases A <;> cases B <;> simp only [go_sem, wpa_pure h39, clsF, hC, wrap_i64 (n := (i : Int) + 1) (by omega) (by omega)]
    all_goals first
      | exact good (by simp)
      | exact bad (by simp)
      | skip
    all_goals (cases C <;> simp only [go_sem, wpa_pure h65, idxF, ge_iff_le, hD, wrap_i64 (n := (i : Int) + 1) (by omega) (by omega)])
    all_goals first
      | exact good (by simp)
      | exact bad (by simp)
      | skip
    all_goals (cases D <;> simp only [go_sem, wrap_i64 (n := (i : Int) + 1) (by omega) (by omega)])
    all_goals first
      | exact good (by simp)
      | exact bad (by simp)
  · cases h

end Go.Cs

/- prio: bare values, members. -/
namespace Go.Cs
variable {K : Nat → Ct}

theorem numL_shape : ∀ (l : List UInt8) (n : Int), ∃ m b, numL l n = .tup [.int .i64 m, .bool b]
  | [], n => ⟨n, true, rfl⟩
  | c :: r, n => by
    simp only [numL]
    split
    · exact numL_shape r _
    · exact ⟨0, false, rfl⟩
theorem numM_shape (s : List UInt8) : ∃ m b, numM s = .tup [.int .i64 m, .bool b] := by
  unfold numM numP
  split
  · exact ⟨0, false, rfl⟩
  · obtain ⟨m, b, h⟩ := numL_shape (cutM s [45]).1 0
    rw [h]
    split
    · cases b
      · exact ⟨_, _, rfl⟩
      · exact ⟨_, _, rfl⟩
    · exact ⟨_, _, rfl⟩
def numOk (s : List UInt8) : Bool := match numM s with
  | .tup [_, .bool b] => b
  | _ => false
def numV (s : List UInt8) : Int := match numM s with
  | .tup [.int _ n, _] => n
  | _ => 0
theorem numM_eq (s : List UInt8) : numM s = .tup [.int .i64 (numV s), .bool (numOk s)] := by
  obtain ⟨m, b, h⟩ := numM_shape s
  simp [numV, numOk, h]

def bareM (s : List UInt8) : Bool := numOk s || (s == [63, 49] || s == [63, 48] || wordM s 11 [95, 45, 46, 58, 47])
def bareF : List CV → Option CV
  | [.str s] => if s.length ≤ 100000 then some (.bool (bareM s)) else none
  | _ => none

theorem bare_runs (h32 : K 32 = pureC numF) (h49 : K 49 = pureC wordF) : ∀ args v, bareF args = some v → args.length = f_prio_bare.np ∧ ∀ cw, Runs K f_prio_bare args cw v := by
  intro args v h
  unfold bareF at h
  split at h
  · rename_i s
    split at h
    case isFalse => cases h
    rename_i hlen
    cases h
    refine ⟨rfl, fun cw Q hQ => ?_⟩
    have fin : ∀ b, b = bareM s → Q .ret [(2, .bool b)] cw := by
      rintro b rfl
      exact hQ .ret _ _ _ (.inr rfl) rfl (.bool _) (fun _ _ => rfl)
    clear hQ
    unfold bareM at fin
    simp only [f_prio_bare, go_sem, wpa_pure h32, numF, numM_eq]
    cases h1 : numOk s <;> simp only [go_sem]
    · cases h2 : (s == [63, 49]) <;> simp only [go_sem]
      · cases h3 : (s == [63, 48]) <;> simp only [go_sem, wpa_pure h49, wordF, if_pos hlen]
        all_goals exact fin _ (by rw [h1, h2, h3]; simp)
      · exact fin _ (by rw [h1, h2]; simp)
    · exact fin _ (by rw [h1]; simp)
  · cases h

def trimF : List CV → Option CV
  | [.str s, .str p] => if s.length ≤ 100000 ∧ p = [32, 9] then some (.str (Lib.trimS s p)) else none
  | _ => none
def cut3F : List CV → Option CV
  | [.str s, .str p] => if s.length ≤ 100000 then some (.tup [.str (Lib.cut s p).1, .str (Lib.cut s p).2.1, .bool (Lib.cut s p).2.2]) else none
  | _ => none

/-- A member's key and value. -/
def keyM (s : List UInt8) : List UInt8 := (Lib.cut (Lib.trimS s [32, 9]) [61]).1
def valM (s : List UInt8) : List UInt8 := if (Lib.cut (Lib.trimS s [32, 9]) [61]).2.2 then (Lib.cut (Lib.trimS s [32, 9]) [61]).2.1 else [63, 49]
def itemOk (s : List UInt8) : Bool := wordM (keyM s) 9 [95, 45, 46] && bareM (valM s)
def itemF : List CV → Option CV
  | [.str s] => if s.length ≤ 100000 then some (.tup [.agg [.str (keyM s), .str (valM s)], .bool (itemOk s)]) else none
  | _ => none

theorem trimS_len (s p : List UInt8) : (Lib.trimS s p).length ≤ s.length := by
  have h1 : ∀ l : List UInt8, (l.dropWhile (p.contains ·)).length ≤ l.length := fun l => (List.dropWhile_suffix _).length_le
  unfold Lib.trimS Lib.trimLeftS Lib.trimRightS
  refine Nat.le_trans (h1 _) ?_
  rw [List.length_reverse]
  refine Nat.le_trans (h1 _) ?_
  rw [List.length_reverse]
  exact Nat.le_refl _

theorem cut_len (s p : List UInt8) : (Lib.cut s p).1.length ≤ s.length ∧ (Lib.cut s p).2.1.length ≤ s.length := by
  unfold Lib.cut
  split
  · exact ⟨by simp only [List.length_take]; omega, by simp only [List.length_drop]; omega⟩
  · exact ⟨Nat.le_refl _, Nat.zero_le _⟩

theorem item_runs (h33 : K 33 = pureC trimF) (h48 : K 48 = pureC cut3F) (h49 : K 49 = pureC wordF) (h50 : K 50 = pureC bareF) : ∀ args v, itemF args = some v → args.length = f_prio_item.np ∧ ∀ cw, Runs K f_prio_item args cw v := by
  intro args v h
  unfold itemF at h
  split at h
  · rename_i s
    split at h
    case isFalse => cases h
    rename_i hlen
    cases h
    refine ⟨rfl, fun cw Q hQ => ?_⟩
    have ht := trimS_len s [32, 9]
    obtain ⟨hc1, hc2⟩ := cut_len (Lib.trimS s [32, 9]) [61]
    have hkl : (keyM s).length ≤ 100000 := Nat.le_trans hc1 (Nat.le_trans ht hlen)
    have hvl : (valM s).length ≤ 100000 := by
      unfold valM
      split
      · exact Nat.le_trans hc2 (Nat.le_trans ht hlen)
      · simp
    have fin : ∀ (cw' : CW), cw'.get cw.next = some (.cells [.str (keyM s), .str (valM s)]) → (∀ b, b < cw.next → cw'.get b = cw.get b) → Q .ret [(2, .ptr cw.next 0), (3, .bool (itemOk s))] cw' := by
      intro cw' h1 h2
      refine hQ .ret _ cw' (.tup [.agg [.str (keyM s), .str (valM s)], .bool (itemOk s)]) (.inr rfl) ?_ ?_ h2
      · simp [resV, resAll, resOne, f_prio_item, Env.get, h1, ldc]
      · refine .tup rfl fun i c d hc hd => ?_
        rw [hc] at hd; cases hd
        match i with
        | 0 => cases hc; exact frz_plain rfl
        | 1 => cases hc; exact .bool _
        | i + 2 => simp at hc
    clear hQ
    have join : ∀ (l : List Fr) (ρ : Env), wpo K Q [⟨some 16, .mov (.t 4), none, []⟩, ⟨some 17, .mov (.t 5), none, []⟩, ⟨some 18, .build [.str [], .str []] [(0, 1, .t 16), (1, 1, .t 17)], none, []⟩, ⟨some 19, .mov (.t 4), none, []⟩,
        ⟨some 20, .call 49 [.t 19, .c (.int .i64 9), .c (.str [95, 45, 46])], none, []⟩, ⟨some 21, .mov (.t 20), none, []⟩, ⟨some 22, .mov (.t 5), some (21, true), []⟩, ⟨some 23, .call 50 [.t 22], some (21, true), []⟩,
        ⟨some 24, .pick (.t 21) (.t 23) (.c (.bool false)), none, []⟩, ⟨none, .store 2 (.t 2) (.t 18), none, []⟩, ⟨some 3, .mov (.t 24), none, []⟩] [2, 3] [.code .ret]
        [(2, .ptr cw.next 0), (4, .str (keyM s)), (5, .str (valM s))] (cw.push (.cells [.str [], .str []])) := by
      intro _ _
      simp only [go_sem, wpa_pure h49, wordF, if_pos hkl]
      cases hw : wordM (keyM s) 9 [95, 45, 46] <;> simp only [go_sem, wpa_pure h50, bareF, if_pos hvl]
      · have hok : itemOk s = false := by simp [itemOk, hw]
        rw [hok] at fin
        refine fin _ (by simp [go_sem]) fun b hb => ?_
        simp only [go_sem]
        rw [if_neg (by omega), if_neg (by omega)]
      · have hok : itemOk s = bareM (valM s) := by simp [itemOk, hw]
        rw [hok] at fin
        refine fin _ (by simp [go_sem]) fun b hb => ?_
        simp only [go_sem]
        rw [if_neg (by omega), if_neg (by omega)]
    unfold keyM valM at join
    simp only [f_prio_item, go_sem, wpa_pure h33, trimF, hlen, wpa_pure h48, cut3F, if_pos (Nat.le_trans ht hlen)]
    cases hh : (Lib.cut (Lib.trimS s [32, 9]) [61]).2.2 <;> rw [hh] at join <;> simp only [go_sem] at join ⊢ <;> exact join [] []
  · cases h

end Go.Cs

/- prio: a value's members. -/
namespace Go.Cs
variable {K : Nat → Ct}

/-- What stands between commas. -/
def splitP : List UInt8 → List (List UInt8)
  | [] => [[]]
  | c :: r => if c = 44 then [] :: splitP r else match splitP r with
    | [] => [[c]]
    | p :: ps => (c :: p) :: ps

theorem splitP_len : ∀ (s p : List UInt8), p ∈ splitP s → p.length ≤ s.length
  | [], p, h => by simp [splitP] at h; simp [h]
  | c :: r, p, h => by
    simp only [splitP] at h
    split at h
    · rcases List.mem_cons.1 h with rfl | h
      · simp
      · have := splitP_len r p h; simp; omega
    · split at h
      · simp at h; simp [h]
      · rename_i q qs hq
        rcases List.mem_cons.1 h with rfl | h
        · have := splitP_len r q (by rw [hq]; exact List.mem_cons_self ..)
          simp; omega
        · have := splitP_len r p (by rw [hq]; exact List.mem_cons_of_mem _ h)
          simp; omega

theorem splitP_count : ∀ s : List UInt8, (splitP s).length ≤ s.length + 1
  | [] => by simp [splitP]
  | c :: r => by
    have := splitP_count r
    simp only [splitP]
    split
    · simp; omega
    · split
      · simp
      · rename_i q qs hq
        rw [hq] at this
        simp at this ⊢; omega

def splitF : List CV → Option CV
  | [.str s, .str p] => if s.length ≤ 100000 ∧ p = [44] then some (.vec ((splitP s).map .str) (splitP s).length true) else none
  | _ => none

/-- The cells of all members; none: one is no member. -/
def itemsL : List (List UInt8) → Option (List CV)
  | [] => some []
  | p :: ps => if itemOk p then (itemsL ps).map fun r => .str (keyM p) :: .str (valM p) :: r else none
def itemsM (s : List UInt8) : CV :=
  if 200 < s.length then .tup [.nils, .int .i64 5] else
  if Lib.trimS s [32, 9] = [] then .tup [.nils, .int .i64 0] else
  match itemsL (splitP s) with
  | none => .tup [.nils, .int .i64 4]
  | some cs => if 16 < (splitP s).length then .tup [.nils, .int .i64 7] else if splitP s = [] then .tup [.nils, .int .i64 0] else .tup [.vec cs (splitP s).length false, .int .i64 0]
def itemsF : List CV → Option CV
  | [.str s] => if s.length ≤ 100000 then some (itemsM s) else none
  | _ => none

theorem itemsL_len : ∀ {ps : List (List UInt8)} {cs : List CV}, itemsL ps = some cs → cs.length = ps.length * 2
  | [], cs, h => by cases h; rfl
  | p :: ps, cs, h => by
    simp only [itemsL] at h
    split at h
    · obtain ⟨r, hr, rfl⟩ := Option.map_eq_some_iff.1 h
      have := itemsL_len hr
      simp; omega
    · cases h

theorem itemsL_strs : ∀ {ps : List (List UInt8)} {cs : List CV}, itemsL ps = some cs → ∀ c ∈ cs, ∃ l, c = .str l
  | [], cs, h, c, hc => by cases h; cases hc
  | p :: ps, cs, h, c, hc => by
    simp only [itemsL] at h
    split at h
    · obtain ⟨r, hr, rfl⟩ := Option.map_eq_some_iff.1 h
      rcases List.mem_cons.1 hc with rfl | hc
      · exact ⟨_, rfl⟩
      · rcases List.mem_cons.1 hc with rfl | hc
        · exact ⟨_, rfl⟩
        · exact itemsL_strs hr c hc
    · cases h

theorem items_runs (h33 : K 33 = pureC trimF) (h34 : K 34 = pureC splitF) (h35 : K 35 = pureC itemF) : ∀ args v, itemsF args = some v → args.length = f_prio_Items.np ∧ ∀ cw, Runs K f_prio_Items args cw v := by
  intro args v h
  unfold itemsF at h
  split at h
  · rename_i s
    split at h
    case isFalse => cases h
    rename_i hlen
    cases h
    refine ⟨rfl, fun cw Q hQ => ?_⟩
    have fin0 : ∀ (cw' : CW) n, CV.tup [.nils, .int .i64 n] = itemsM s → (∀ b, b < cw.next → cw'.get b = cw.get b) → Q .ret [(2, .nils), (3, .int .i64 n)] cw' := by
      intro cw' n e hk
      refine hQ .ret _ _ _ (.inr rfl) rfl ?_ hk
      rw [← e]; exact frz_plain rfl
    have fin1 : ∀ (cw' : CW) (b n : Nat) (cs : List CV), CV.tup [.vec cs n false, .int .i64 0] = itemsM s → cw.next ≤ b → cw'.get b = some (.cells cs) → cs.length = n * 2 → (∀ c ∈ cs, ∃ l, c = .str l) → (∀ b, b < cw.next → cw'.get b = cw.get b) →
        Q .ret [(2, .ref b 0 n 2), (3, .int .i64 0)] cw' := by
      intro cw' b n cs e hb hg hl hst hk
      refine hQ .ret _ _ _ (.inr rfl) rfl ?_ hk
      rw [← e]
      refine .tup rfl fun i c d hc hd => ?_
      match i with
      | 0 =>
        cases hc; cases hd
        refine .ref hb hg (by omega) hl fun i c d hi hc hd => ?_
        rw [Nat.zero_add] at hc
        rw [hc] at hd; cases hd
        obtain ⟨l, rfl⟩ := hst c (List.mem_of_getElem? hc)
        exact .str l
      | 1 => cases hc; cases hd; exact .int _ _
      | i + 2 => simp at hc
    clear hQ
    simp only [f_prio_Items, go_sem]
    cases h200 : decide ((s.length : Int) > 200) <;> simp only [go_sem]
    case true =>
      refine fin0 _ _ ?_ (fun _ _ => rfl)
      simp only [decide_eq_true_eq] at h200
      rw [itemsM, if_pos (by omega)]
    simp only [decide_eq_false_iff_not] at h200
    have hsl : ¬ 200 < s.length := by omega
    simp only [wpa_pure h33, trimF, hlen, go_sem]
    cases htr : (Lib.trimS s [32, 9] == []) <;> simp only [go_sem]
    case true =>
      refine fin0 _ _ ?_ (fun _ _ => rfl)
      rw [itemsM, if_neg hsl, if_pos (by simpa using htr)]
    have htr' : ¬ Lib.trimS s [32, 9] = [] := by simpa using htr
    have hM : itemsM s = (match itemsL (splitP s) with
      | none => .tup [.nils, .int .i64 4]
      | some cs => if 16 < (splitP s).length then .tup [.nils, .int .i64 7] else if splitP s = [] then .tup [.nils, .int .i64 0] else .tup [.vec cs (splitP s).length false, .int .i64 0]) := by
      rw [itemsM, if_neg hsl, if_neg htr']
    simp only [wpa_pure h34, splitF, hlen, go_sem]
    obtain ⟨parts, hparts⟩ : ∃ p, splitP s = p := ⟨_, rfl⟩
    have hcount := splitP_count s
    have hplen := splitP_len s
    rw [hparts] at hM hcount hplen ⊢
    refine wpk_loop (fun m ρ cw' => ∃ (i : Nat) (acc : List CV) (out : CV), m = parts.length - i ∧ i ≤ parts.length ∧ ρ = [(4, out), (16, .vec (parts.map .str) parts.length true), (17, .int .i64 parts.length), (18, .int .i64 i)] ∧
        itemsL parts = (itemsL (parts.drop i)).map (acc ++ ·) ∧ acc.length = i * 2 ∧ (∀ b, b < cw.next → cw'.get b = cw.get b) ∧ cw.next ≤ cw'.next ∧
        ((i = 0 ∧ out = .nils) ∨ ∃ b, 0 < i ∧ out = .ref b 0 i 2 ∧ cw'.get b = some (.cells acc) ∧ cw.next ≤ b ∧ b < cw'.next)) parts.length
      ⟨0, [], .nils, by omega, by omega, rfl, by simp, rfl, fun _ _ => rfl, Nat.le_refl _, .inl ⟨rfl, rfl⟩⟩ ?_
    rintro m ρ cw' N ⟨i, acc, out, rfl, hi, rfl, hacc, hal, hk, hnx, hout⟩ hN
    simp only [go_sem]
    cases hlt : decide ((i : Int) < parts.length)
    case false =>
      simp only [decide_eq_false_iff_not] at hlt
      have hie : i = parts.length := by omega
      rw [List.drop_of_length_le (by omega)] at hacc
      simp only [itemsL, Option.map_some, List.append_nil] at hacc
      rw [hacc] at hM
      simp only at hM
      rcases hout with ⟨h0, rfl⟩ | ⟨b, h0, rfl, hg, hb, _⟩
      · have hpn : parts = [] := List.length_eq_zero_iff.1 (by omega)
        have hd : decide ((0 : Int) > 16) = false := by decide
        simp only [go_sem, hd]
        refine fin0 _ _ ?_ hk
        rw [hM, hpn]
        rfl
      · have hpn : ¬ parts = [] := by rintro rfl; simp at hie; omega
        rw [if_neg hpn] at hM
        simp only [go_sem]
        cases h16 : decide ((i : Int) > 16) <;> simp only [go_sem]
        · simp only [decide_eq_false_iff_not] at h16
          rw [if_neg (by omega)] at hM
          refine fin1 _ _ _ acc ?_ hb hg hal (itemsL_strs hacc) hk
          rw [hM, hie]
        · simp only [decide_eq_true_eq] at h16
          rw [if_pos (by omega)] at hM
          exact fin0 _ _ hM.symm hk
    simp only [decide_eq_true_eq] at hlt
    obtain ⟨p, ps, hp⟩ : ∃ p ps, parts.drop i = p :: ps := ⟨_, _, List.drop_eq_getElem_cons (by omega)⟩
    have hlti : i < parts.length := by omega
    have hpe : parts[i] = p ∧ parts.drop (i + 1) = ps := by
      rw [List.drop_eq_getElem_cons hlti] at hp
      exact List.cons.inj hp
    have hat : (parts.map CV.str)[i]? = some (.str p) := by simp [hlti, hpe.1]
    have hple : p.length ≤ 100000 := by
      have := hplen p (by rw [← hpe.1]; exact List.getElem_mem _)
      omega
    have hin : 0 ≤ (i : Int) ∧ (i : Int) < parts.length := ⟨by omega, hlt⟩
    rw [hp] at hacc
    simp only [itemsL] at hacc
    simp only [go_sem, hin, hat, wpa_pure h35, itemF, hple]
    cases hok : itemOk p <;> simp only [go_sem]
    · rw [hok] at hacc
      simp only [Bool.false_eq_true, if_false, Option.map_none] at hacc
      rw [hacc] at hM
      refine fin0 _ _ hM.symm fun b hb => ?_
      simp only [go_sem]
      rw [if_neg (by omega), if_neg (by omega)]
      exact hk b hb
    · rw [hok] at hacc
      simp only [if_true, Option.map_map] at hacc
      have hacc' : itemsL parts = (itemsL (parts.drop (i + 1))).map ((acc ++ [.str (keyM p), .str (valM p)]) ++ ·) := by
        rw [hacc, hpe.2]
        congr 1
        funext r
        simp
      have hl2 : (acc ++ [CV.str (keyM p), CV.str (valM p)]).length = (i + 1) * 2 := by simp; omega
      have hw := wrap_i64 (n := (i : Int) + 1) (by omega) (by omega)
      have hlim : (1 : Nat) ≤ lim := by decide
      have hlim2 : i + 1 ≤ lim := by have : (200000 : Nat) ≤ lim := by decide
                                     omega
      rcases hout with ⟨rfl, rfl⟩ | ⟨b, h0, rfl, hg, hb, hb2⟩
      · simp only [go_sem, hlim]
        have h01 : IntKind.wrap .i64 ((0 : Nat) + 1) = ((0 + 1 : Nat) : Int) := by decide
        rw [h01]
        refine hN _ _ _ ?_ ⟨0 + 1, acc ++ [.str (keyM p), .str (valM p)], .ref (cw'.next + 1) 0 1 2, rfl, by omega, rfl, hacc', hl2, fun b hb => ?_, ?_, .inr ⟨cw'.next + 1, by omega, rfl, ?_, by omega, ?_⟩⟩
        · omega
        · rw [push_old (by simp only [go_sem]; omega), set_old (by omega), push_old (by omega)]
          exact hk b hb
        · simp only [go_sem]; omega
        · have : acc = [] := List.length_eq_zero_iff.1 (by omega)
          simp only [go_sem, this]
        · simp only [go_sem]; omega
      · have hbn : ¬ b = cw'.next := by omega
        have c1 : ¬ (i + 1) * 2 ≤ acc.length := by omega
        have c2 : i * 2 = acc.length ∧ i + 1 ≤ lim := ⟨hal.symm, hlim2⟩
        simp only [go_sem, hlim, hg, hbn, c1, c2, ne_eq, not_true_eq_false, hw]
        refine hN _ _ _ ?_ ⟨i + 1, acc ++ [.str (keyM p), .str (valM p)], .ref (cw'.next + 1) 0 (i + 1) 2, rfl, by omega, rfl, hacc', hl2, fun b' hb' => ?_, ?_, .inr ⟨cw'.next + 1, by omega, rfl, ?_, by omega, ?_⟩⟩
        · omega
        · rw [push_old (by simp only [go_sem]; omega), kill_old (by omega), set_old (by omega), push_old (by omega)]
          exact hk b' hb'
        · simp only [go_sem]; omega
        · simp only [go_sem]
        · simp only [go_sem]; omega
  · cases h

end Go.Cs

/- prio: what may be, what is usual, the last of a key. -/
namespace Go.Cs
variable {K : Nat → Ct}

def checkM (u : Int) : Int := if u < 0 ∨ 7 < u then 8 else 0
def checkF : List CV → Option CV
  | [.agg [.int .i64 u, .bool _]] => some (.int .i64 (checkM u))
  | _ => none

theorem check_runs : ∀ args v, checkF args = some v → args.length = f_prio_Check.np ∧ ∀ cw, Runs K f_prio_Check args cw v := by
  intro args v h
  unfold checkF at h
  split at h
  · rename_i u st
    cases h
    refine ⟨rfl, fun cw Q hQ => ?_⟩
    have fin : ∀ (n : Int), n = checkM u → Q .ret [(2, .int .i64 n)] (cw.push (.cells [.int .i64 u, .bool st])) := by
      rintro n rfl
      exact hQ .ret _ _ _ (.inr rfl) rfl (.int _ _) (fun b hb => push_old (by omega))
    clear hQ
    simp only [f_prio_Check, go_sem]
    cases h1 : decide (u < 0) <;> simp only [go_sem]
    · cases h2 : decide (u > 7) <;> simp only [go_sem] <;> refine fin _ ?_ <;> simp only [decide_eq_true_eq, decide_eq_false_iff_not] at h1 h2 <;> unfold checkM
      · rw [if_neg (by omega)]
      · rw [if_pos (by omega)]
    · refine fin _ ?_
      simp only [decide_eq_true_eq] at h1
      rw [checkM, if_pos (.inl h1)]
  · cases h

def usualF : List CV → Option CV
  | [] => some (.agg [.int .i64 3, .bool false])
  | _ => none

theorem usual_runs : ∀ args v, usualF args = some v → args.length = f_prio_Usual.np ∧ ∀ cw, Runs K f_prio_Usual args cw v := by
  intro args v h
  unfold usualF at h
  split at h
  · cases h
    refine ⟨rfl, fun cw Q hQ => ?_⟩
    simp only [f_prio_Usual, go_sem]
    refine hQ .ret _ _ (.agg [.int .i64 3, .bool false]) (.inr rfl) ?_ (frz_plain rfl) fun b hb => ?_
    · simp [resV, resAll, resOne, f_prio_Usual, go_sem]
    · rw [set_old (by omega), push_old (by omega)]
  · cases h

/-- The last value of a key among members' cells. -/
def lastL (key : List UInt8) : List CV → List UInt8 → List UInt8
  | .str k :: .str v :: r, acc => lastL key r (if k = key then v else acc)
  | _, acc => acc
def isStr : CV → Bool
  | .str _ => true
  | _ => false
def lastF : List CV → CW → Option (CV × CW)
  | [.str key, .ptr b 0], cw => match cw.get b with
    | some (.cells [.nils]) => some (.str [], cw)
    | some (.cells [.vec cs n _]) => if cs.length = n * 2 ∧ n ≤ 1000 ∧ cs.all isStr = true then some (.str (lastL key cs []), cw) else none
    | _ => none
  | _, _ => none

theorem last_runs : ∀ args cw v cw', lastF args cw = some (v, cw') → args.length = f_prio_Merge_1.np ∧ cw' = cw ∧ Runs K f_prio_Merge_1 args cw v := by
  intro args cw v cw' h
  unfold lastF at h
  split at h
  · rename_i key b
    split at h
    · rename_i hg
      cases h
      refine ⟨rfl, rfl, fun Q hQ => ?_⟩
      have fin : Q .ret [(3, .str [])] cw := hQ .ret _ _ _ (.inr rfl) rfl (.str _) (fun _ _ => rfl)
      clear hQ
      simp only [f_prio_Merge_1, go_sem, hg]
      refine wpk_loop (fun m ρ cw' => cw' = cw ∧ ρ = [(0, .str key), (4, .str []), (7, .nils), (8, .int .i64 0), (9, .int .i64 0)]) 0 ⟨rfl, rfl⟩ ?_
      rintro m ρ cw' N ⟨rfl, rfl⟩ hN
      have hd : decide ((0 : Int) < 0) = false := by decide
      simp only [go_sem, hd]
      exact fin
    · rename_i cs n clip hg
      split at h
      case isFalse => cases h
      rename_i hc
      obtain ⟨hcl, hn, hst⟩ := hc
      cases h
      refine ⟨rfl, rfl, fun Q hQ => ?_⟩
      have fin : ∀ (cw' : CW) l, l = lastL key cs [] → (∀ b, b < cw.next → cw'.get b = cw.get b) → Q .ret [(3, .str l)] cw' := by
        rintro cw' l rfl hk
        exact hQ .ret _ _ _ (.inr rfl) rfl (.str _) hk
      clear hQ
      simp only [f_prio_Merge_1, go_sem, hg]
      refine wpk_loop (fun m ρ cw' => ∃ (i : Nat) (acc : List UInt8), m = n - i ∧ i ≤ n ∧ ρ = [(0, .str key), (4, .str acc), (7, .vec cs n clip), (8, .int .i64 n), (9, .int .i64 i)] ∧
          lastL key (cs.drop (i * 2)) acc = lastL key cs [] ∧ (∀ b, b < cw.next → cw'.get b = cw.get b) ∧ cw.next ≤ cw'.next) n ⟨0, [], by omega, by omega, rfl, by simp, fun _ _ => rfl, Nat.le_refl _⟩ ?_
      rintro m ρ cw' N ⟨i, acc, rfl, hi, rfl, hl, hk, hnx⟩ hN
      simp only [go_sem]
      cases hlt : decide ((i : Int) < n) <;> simp only [go_sem]
      · simp only [decide_eq_false_iff_not] at hlt
        rw [List.drop_of_length_le (by omega)] at hl
        exact fin _ _ hl hk
      · simp only [decide_eq_true_eq] at hlt
        obtain ⟨x, y, r, hxy⟩ : ∃ x y r, cs.drop (i * 2) = x :: y :: r :=
          ⟨_, _, _, (List.drop_eq_getElem_cons (by omega)).trans (congrArg _ (List.drop_eq_getElem_cons (by omega)))⟩
        have hall : ∀ c ∈ cs, ∃ l, c = .str l := by
          intro c hc
          have := List.all_eq_true.1 hst c hc
          cases c <;> simp [isStr] at this
          exact ⟨_, rfl⟩
        have hsub : ∀ c ∈ cs.drop (i * 2), c ∈ cs := fun c hc => List.mem_of_mem_drop hc
        obtain ⟨k, rfl⟩ := hall x (hsub x (by rw [hxy]; simp))
        obtain ⟨v, rfl⟩ := hall y (hsub y (by rw [hxy]; simp))
        have hr : cs.drop ((i + 1) * 2) = r := by
          have h2 : (i + 1) * 2 = i * 2 + 2 := by omega
          rw [h2, ← List.drop_drop, hxy]
          rfl
        rw [hxy] at hl
        simp only [lastL] at hl
        have hin : 0 ≤ (i : Int) ∧ (i : Int) < n := ⟨by omega, hlt⟩
        have hle : i * 2 + 2 ≤ cs.length := by omega
        have hw := wrap_i64 (n := (i : Int) + 1) (by omega) (by omega)
        simp only [go_sem, hin, hle, hxy, hw]
        cases hkk : (k == key) <;> simp only [go_sem, hw]
        · rw [if_neg (by simpa using hkk)] at hl
          refine hN _ _ _ ?_ ⟨i + 1, acc, rfl, by omega, rfl, by rw [hr]; exact hl, fun b' hb' => ?_, ?_⟩
          · omega
          · rw [set_old (by omega), push_old (by omega)]; exact hk b' hb'
          · simp only [go_sem]; omega
        · rw [if_pos (by simpa using hkk)] at hl
          refine hN _ _ _ ?_ ⟨i + 1, v, rfl, by omega, rfl, by rw [hr]; exact hl, fun b' hb' => ?_, ?_⟩
          · omega
          · rw [set_old (by omega), push_old (by omega)]; exact hk b' hb'
          · simp only [go_sem]; omega
    · cases h
  · cases h

end Go.Cs

/- prio: merging. -/
namespace Go.Cs
variable {K : Nat → Ct}

def itemsC (s : List UInt8) : List CV := match itemsM s with
  | .tup [.vec cs _ _, _] => cs
  | _ => []
def itemsE (s : List UInt8) : Int := match itemsM s with
  | .tup [_, .int _ e] => e
  | _ => 0

theorem itemsM_shape (s : List UInt8) : (itemsM s = .tup [.nils, .int .i64 (itemsE s)] ∧ itemsC s = []) ∨
    ∃ n, itemsM s = .tup [.vec (itemsC s) n false, .int .i64 (itemsE s)] ∧ (itemsC s).length = n * 2 ∧ n ≤ 1000 ∧ (itemsC s).all isStr = true := by
  have key : ∀ c, itemsM s = c → ((∃ e, c = .tup [.nils, .int .i64 e]) ∨ ∃ cs n, c = .tup [.vec cs n false, .int .i64 0] ∧ cs.length = n * 2 ∧ n ≤ 1000 ∧ cs.all isStr = true) → (itemsM s = .tup [.nils, .int .i64 (itemsE s)] ∧ itemsC s = []) ∨
      ∃ n, itemsM s = .tup [.vec (itemsC s) n false, .int .i64 (itemsE s)] ∧ (itemsC s).length = n * 2 ∧ n ≤ 1000 ∧ (itemsC s).all isStr = true := by
    rintro c hc (⟨e, rfl⟩ | ⟨cs, n, rfl, h1, h2, h3⟩)
    · left
      simp [itemsE, itemsC, hc]
    · right
      refine ⟨n, ?_⟩
      simp only [itemsE, itemsC, hc]
      exact ⟨trivial, h1, h2, h3⟩
  refine key _ rfl ?_
  unfold itemsM
  split
  · exact .inl ⟨_, rfl⟩
  · split
    · exact .inl ⟨_, rfl⟩
    · cases h : itemsL (splitP s) with
      | none => exact .inl ⟨_, rfl⟩
      | some cs =>
        simp only
        split
        · exact .inl ⟨_, rfl⟩
        · split
          · exact .inl ⟨_, rfl⟩
          · refine .inr ⟨cs, _, rfl, itemsL_len h, by omega, List.all_eq_true.2 fun c hc => ?_⟩
            obtain ⟨l, rfl⟩ := itemsL_strs h c hc
            rfl

theorem items_last (s : List UInt8) : ∃ lv, itemsM s = .tup [lv, .int .i64 (itemsE s)] ∧ (lv = .nils ∨ ∃ cs n, lv = .vec cs n false) ∧
    ∀ (key : List UInt8) (cw : CW) (b : Nat), cw.get b = some (.cells [lv]) → lastF [.str key, .ptr b 0] cw = some (.str (lastL key (itemsC s) []), cw) := by
  rcases itemsM_shape s with ⟨hi, hcs⟩ | ⟨n, hi, hcl, hn, hst⟩
  · refine ⟨.nils, hi, .inl rfl, fun key cw b hg => ?_⟩
    simp only [lastF, hg, hcs, lastL]
  · refine ⟨_, hi, .inr ⟨_, _, rfl⟩, fun key cw b hg => ?_⟩
    simp only [lastF, hg]
    rw [if_pos ⟨hcl, hn, hst⟩]

def mergeU (u : Int) (l : List UInt8) : Int := if numOk l = true ∧ 0 ≤ numV l ∧ numV l ≤ 7 then numV l else u
def mergeS (st : Bool) (l : List UInt8) : Bool := if l = [63, 49] then true else if l = [63, 48] then false else st
def mergeM (u : Int) (st : Bool) (s : List UInt8) : CV :=
  if checkM u ≠ 0 then .tup [.agg [.int .i64 0, .bool false], .int .i64 (checkM u)] else
  if itemsE s ≠ 0 then .tup [.agg [.int .i64 0, .bool false], .int .i64 (itemsE s)] else
  .tup [.agg [.int .i64 (mergeU u (lastL [117] (itemsC s) [])), .bool (mergeS st (lastL [105] (itemsC s) []))], .int .i64 0]
def mergeF : List CV → Option CV
  | [.agg [.int .i64 u, .bool st], .str s] => if s.length ≤ 100000 then some (mergeM u st s) else none
  | _ => none

theorem merge_runs (h11 : K 11 = pureC checkF) (h24 : K 24 = pureC itemsF) (h31 : K 31 = effC lastF) (h32 : K 32 = pureC numF) : ∀ args v, mergeF args = some v → args.length = f_prio_Merge.np ∧ ∀ cw, Runs K f_prio_Merge args cw v := by
  intro args v h
  unfold mergeF at h
  split at h
  · rename_i u st s
    split at h
    case isFalse => cases h
    rename_i hlen
    cases h
    refine ⟨rfl, fun cw Q hQ => ?_⟩
    have fin : ∀ (cw' : CW) (a : Int) (b : Bool) (e : Int), CV.tup [.agg [.int .i64 a, .bool b], .int .i64 e] = mergeM u st s → cw'.get (cw.next + 1) = some (.cells [.int .i64 a, .bool b]) → (∀ b, b < cw.next → cw'.get b = cw.get b) →
        Q .ret [(4, .ptr (cw.next + 1) 0), (5, .int .i64 e)] cw' := by
      intro cw' a b e he hg hk
      refine hQ .ret _ cw' (.tup [.agg [.int .i64 a, .bool b], .int .i64 e]) (.inr rfl) ?_ ?_ hk
      · simp [resV, resAll, resOne, f_prio_Merge, Env.get, hg, ldc]
      · rw [← he]
        refine .tup rfl fun i c d hc hd => ?_
        rw [hc] at hd; cases hd
        match i with
        | 0 => cases hc; exact frz_plain rfl
        | 1 => cases hc; exact .int _ _
        | i + 2 => simp at hc
    clear hQ
    simp only [f_prio_Merge, go_sem, wpa_pure h11, checkF]
    cases hc : (checkM u != 0) <;> simp only [go_sem]
    case true =>
      refine fin _ 0 false _ ?_ ?_ fun b hb => ?_
      · rw [mergeM, if_pos (by simpa using hc)]
      · simp only [go_sem]
      · rw [set_old (by omega), push_old (by simp only [go_sem]; omega), push_old (by omega)]
    have hc0 : ¬ checkM u ≠ 0 := by simpa using hc
    obtain ⟨lv, hi, hlv, hlast⟩ := items_last s
    have hM : ¬ itemsE s ≠ 0 → mergeM u st s = .tup [.agg [.int .i64 (mergeU u (lastL [117] (itemsC s) [])), .bool (mergeS st (lastL [105] (itemsC s) []))], .int .i64 0] := by
      intro he0
      rw [mergeM, if_neg hc0, if_neg he0]
    have e1 : ∀ (o1 o2 o3 o4 o5 : CO) b, b < cw.next → (((((cw.push o1).push o2).push o3).set (cw.next + 1 + 1) o4).set (cw.next + 1) o5).get b = cw.get b := by
      intro o1 o2 o3 o4 o5 b hb
      rw [set_old (by omega), set_old (by omega), push_old (by simp only [go_sem]; omega), push_old (by simp only [go_sem]; omega), push_old (by omega)]
    rcases hlv with rfl | ⟨cs, n, rfl⟩
    all_goals
      simp only [wpa_pure h24, itemsF, hlen, hi, go_sem, wpa_eff h31]
      cases he : (itemsE s != 0) <;> simp only [go_sem]
      case true =>
        refine fin _ 0 false _ ?_ ?_ fun b hb => ?_
        · rw [mergeM, if_neg hc0, if_pos (by simpa using he)]
        · simp only [go_sem]
        · exact e1 _ _ _ _ _ b hb
      replace hM := hM (by simpa using he)
      rw [hM] at fin
      rw [wpa_eff h31, hlast _ _ _ (by simp only [go_sem])]
      simp only [go_sem, wpa_pure h32, numF, numM_eq]
      generalize lastL [117] (itemsC s) [] = lu at *
      have fin' : ∀ (cw' : CW) (a : Int) (b : Bool), a = mergeU u lu → b = mergeS st (lastL [105] (itemsC s) []) → cw'.get (cw.next + 1) = some (.cells [.int .i64 a, .bool b]) → (∀ b, b < cw.next → cw'.get b = cw.get b) →
          Q .ret [(4, .ptr (cw.next + 1) 0), (5, .int .i64 0)] cw' := by
        rintro cw' a b rfl rfl hg hk
        exact fin _ _ _ _ rfl hg hk
      cases t1 : numOk lu <;> simp only [go_sem]
      case true =>
        cases t2 : decide (numV lu ≥ 0) <;> simp only [go_sem]
        case true =>
          cases t3 : decide (numV lu ≤ 7) <;> simp only [go_sem]
          case true =>
            have hu : mergeU u lu = numV lu := by
              simp only [decide_eq_true_eq] at t2 t3
              rw [mergeU, if_pos ⟨t1, by omega, t3⟩]
            rw [wpa_eff h31, hlast _ _ _ (by simp only [go_sem])]
            simp only [go_sem]
            cases l1 : (lastL [105] (itemsC s) [] == [63, 49]) <;> simp only [go_sem]
            case true =>
              refine fin' _ (numV lu) true hu.symm (by simp only [mergeS, if_pos (beq_iff_eq.1 l1)]) (by simp only [go_sem]) fun b hb => ?_
              have b1 : ¬ b = cw.next := by omega
              have b2 : ¬ b = cw.next + 1 := by omega
              have b3 : ¬ b = cw.next + 1 + 1 := by omega
              simp only [go_sem, b1, b2, b3]
            have n1 : ¬ lastL [105] (itemsC s) [] = [63, 49] := by simpa using l1
            cases l2 : (lastL [105] (itemsC s) [] == [63, 48]) <;> simp only [go_sem]
            case true =>
              refine fin' _ (numV lu) false hu.symm (by simp only [mergeS, if_neg n1, if_pos (beq_iff_eq.1 l2)]) (by simp only [go_sem]) fun b hb => ?_
              have b1 : ¬ b = cw.next := by omega
              have b2 : ¬ b = cw.next + 1 := by omega
              have b3 : ¬ b = cw.next + 1 + 1 := by omega
              simp only [go_sem, b1, b2, b3]
            case false =>
              have n2 : ¬ lastL [105] (itemsC s) [] = [63, 48] := by simpa using l2
              refine fin' _ (numV lu) st hu.symm (by simp only [mergeS, if_neg n1, if_neg n2]) (by simp only [go_sem]) fun b hb => ?_
              have b1 : ¬ b = cw.next := by omega
              have b2 : ¬ b = cw.next + 1 := by omega
              have b3 : ¬ b = cw.next + 1 + 1 := by omega
              simp only [go_sem, b1, b2, b3]
          case false =>
            have hu : mergeU u lu = u := by
              simp only [decide_eq_false_iff_not] at t3
              rw [mergeU, if_neg (fun h => t3 h.2.2)]
            rw [wpa_eff h31, hlast _ _ _ (by simp only [go_sem])]
            simp only [go_sem]
            cases l1 : (lastL [105] (itemsC s) [] == [63, 49]) <;> simp only [go_sem]
            case true =>
              refine fin' _ u true hu.symm (by simp only [mergeS, if_pos (beq_iff_eq.1 l1)]) (by simp only [go_sem]) fun b hb => ?_
              have b1 : ¬ b = cw.next := by omega
              have b2 : ¬ b = cw.next + 1 := by omega
              have b3 : ¬ b = cw.next + 1 + 1 := by omega
              simp only [go_sem, b1, b2, b3]
            have n1 : ¬ lastL [105] (itemsC s) [] = [63, 49] := by simpa using l1
            cases l2 : (lastL [105] (itemsC s) [] == [63, 48]) <;> simp only [go_sem]
            case true =>
              refine fin' _ u false hu.symm (by simp only [mergeS, if_neg n1, if_pos (beq_iff_eq.1 l2)]) (by simp only [go_sem]) fun b hb => ?_
              have b1 : ¬ b = cw.next := by omega
              have b2 : ¬ b = cw.next + 1 := by omega
              have b3 : ¬ b = cw.next + 1 + 1 := by omega
              simp only [go_sem, b1, b2, b3]
            case false =>
              have n2 : ¬ lastL [105] (itemsC s) [] = [63, 48] := by simpa using l2
              refine fin' _ u st hu.symm (by simp only [mergeS, if_neg n1, if_neg n2]) (by simp only [go_sem]) fun b hb => ?_
              have b1 : ¬ b = cw.next := by omega
              have b2 : ¬ b = cw.next + 1 := by omega
              have b3 : ¬ b = cw.next + 1 + 1 := by omega
              simp only [go_sem, b1, b2, b3]
        case false =>
          have hu : mergeU u lu = u := by
            simp only [decide_eq_false_iff_not] at t2
            rw [mergeU, if_neg (fun h => t2 h.2.1)]
          rw [wpa_eff h31, hlast _ _ _ (by simp only [go_sem])]
          simp only [go_sem]
          cases l1 : (lastL [105] (itemsC s) [] == [63, 49]) <;> simp only [go_sem]
          case true =>
            refine fin' _ u true hu.symm (by simp only [mergeS, if_pos (beq_iff_eq.1 l1)]) (by simp only [go_sem]) fun b hb => ?_
            have b1 : ¬ b = cw.next := by omega
            have b2 : ¬ b = cw.next + 1 := by omega
            have b3 : ¬ b = cw.next + 1 + 1 := by omega
            simp only [go_sem, b1, b2, b3]
          have n1 : ¬ lastL [105] (itemsC s) [] = [63, 49] := by simpa using l1
          cases l2 : (lastL [105] (itemsC s) [] == [63, 48]) <;> simp only [go_sem]
          case true =>
            refine fin' _ u false hu.symm (by simp only [mergeS, if_neg n1, if_pos (beq_iff_eq.1 l2)]) (by simp only [go_sem]) fun b hb => ?_
            have b1 : ¬ b = cw.next := by omega
            have b2 : ¬ b = cw.next + 1 := by omega
            have b3 : ¬ b = cw.next + 1 + 1 := by omega
            simp only [go_sem, b1, b2, b3]
          case false =>
            have n2 : ¬ lastL [105] (itemsC s) [] = [63, 48] := by simpa using l2
            refine fin' _ u st hu.symm (by simp only [mergeS, if_neg n1, if_neg n2]) (by simp only [go_sem]) fun b hb => ?_
            have b1 : ¬ b = cw.next := by omega
            have b2 : ¬ b = cw.next + 1 := by omega
            have b3 : ¬ b = cw.next + 1 + 1 := by omega
            simp only [go_sem, b1, b2, b3]
      case false =>
        have hu : mergeU u lu = u := by rw [mergeU, if_neg (fun h => by rw [t1] at h; exact Bool.noConfusion h.1)]
        rw [wpa_eff h31, hlast _ _ _ (by simp only [go_sem])]
        simp only [go_sem]
        cases l1 : (lastL [105] (itemsC s) [] == [63, 49]) <;> simp only [go_sem]
        case true =>
          refine fin' _ u true hu.symm (by simp only [mergeS, if_pos (beq_iff_eq.1 l1)]) (by simp only [go_sem]) fun b hb => ?_
          have b1 : ¬ b = cw.next := by omega
          have b2 : ¬ b = cw.next + 1 := by omega
          have b3 : ¬ b = cw.next + 1 + 1 := by omega
          simp only [go_sem, b1, b2, b3]
        have n1 : ¬ lastL [105] (itemsC s) [] = [63, 49] := by simpa using l1
        cases l2 : (lastL [105] (itemsC s) [] == [63, 48]) <;> simp only [go_sem]
        case true =>
          refine fin' _ u false hu.symm (by simp only [mergeS, if_neg n1, if_pos (beq_iff_eq.1 l2)]) (by simp only [go_sem]) fun b hb => ?_
          have b1 : ¬ b = cw.next := by omega
          have b2 : ¬ b = cw.next + 1 := by omega
          have b3 : ¬ b = cw.next + 1 + 1 := by omega
          simp only [go_sem, b1, b2, b3]
        case false =>
          have n2 : ¬ lastL [105] (itemsC s) [] = [63, 48] := by simpa using l2
          refine fin' _ u st hu.symm (by simp only [mergeS, if_neg n1, if_neg n2]) (by simp only [go_sem]) fun b hb => ?_
          have b1 : ¬ b = cw.next := by omega
          have b2 : ¬ b = cw.next + 1 := by omega
          have b3 : ¬ b = cw.next + 1 + 1 := by omega
          simp only [go_sem, b1, b2, b3]
  · cases h

end Go.Cs

/- prio: parsing; printing. -/
namespace Go.Cs
variable {K : Nat → Ct}

def parseF : List CV → Option CV
  | [.str s] => if s.length ≤ 100000 then some (mergeM 3 false s) else none
  | _ => none

theorem mergeM_shape (u : Int) (st : Bool) (s : List UInt8) : ∃ a b e, mergeM u st s = .tup [.agg [.int .i64 a, .bool b], .int .i64 e] := by
  unfold mergeM
  split
  · exact ⟨_, _, _, rfl⟩
  · split
    · exact ⟨_, _, _, rfl⟩
    · exact ⟨_, _, _, rfl⟩

theorem parse_runs (h19 : K 19 = pureC usualF) (h23 : K 23 = pureC mergeF) : ∀ args v, parseF args = some v → args.length = f_prio_Parse.np ∧ ∀ cw, Runs K f_prio_Parse args cw v := by
  intro args v h
  unfold parseF at h
  split at h
  · rename_i s
    split at h
    case isFalse => cases h
    rename_i hlen
    cases h
    refine ⟨rfl, fun cw Q hQ => ?_⟩
    obtain ⟨a, b, e, hm⟩ := mergeM_shape 3 false s
    rw [hm] at hQ
    have fin : ∀ (cw' : CW), cw'.get cw.next = some (.cells [.int .i64 a, .bool b]) → (∀ b, b < cw.next → cw'.get b = cw.get b) → Q .ret [(2, .ptr cw.next 0), (3, .int .i64 e)] cw' := by
      intro cw' hg hk
      refine hQ .ret _ cw' (.tup [.agg [.int .i64 a, .bool b], .int .i64 e]) (.inr rfl) ?_ ?_ hk
      · simp [resV, resAll, resOne, f_prio_Parse, Env.get, hg, ldc]
      · refine .tup rfl fun i c d hc hd => ?_
        rw [hc] at hd; cases hd
        match i with
        | 0 => cases hc; exact frz_plain rfl
        | 1 => cases hc; exact .int _ _
        | i + 2 => simp at hc
    clear hQ
    simp only [f_prio_Parse, go_sem, wpa_pure h19, wpa_pure h23, usualF, mergeF, hlen, hm]
    refine fin _ (by simp only [go_sem]) fun b' hb' => ?_
    have b1 : ¬ b' = cw.next := by omega
    simp only [go_sem, b1]
  · cases h

end Go.Cs

/- prio: printing. -/
namespace Go.Cs
variable {K : Nat → Ct}

def strsOf : List CV → Option (List (List UInt8))
  | [] => some []
  | .str l :: r => (strsOf r).bind fun ls => some (l :: ls)
  | _ => none
/-- strings.Join. -/
def joinF : List CV → CW → Option (CV × CW)
  | [v, .str sep], cw => if isStr v = true then none else (seqOf cw 1 v).bind fun p => (strsOf p.1).bind fun ls => if (Lib.join ls sep).length ≤ 100000 ∧ ls.length ≤ 1000 then some (.str (Lib.join ls sep), cw) else none
  | _, _ => none
def itoaF : List CV → Option CV
  | [.int .i64 n] => if 0 ≤ n ∧ n < 100 then some (.str (Lib.decDigits n.toNat)) else none
  | _ => none

def printL (u : Int) (st : Bool) : List (List UInt8) := (if u = 3 then [] else [[117, 61] ++ Lib.decDigits u.toNat]) ++ (if st then [[105]] else [])
def printM (u : Int) (st : Bool) : CV := if checkM u ≠ 0 then .tup [.str [], .int .i64 (checkM u)] else .tup [.str (Lib.join (printL u st) [44, 32]), .int .i64 0]
def printF : List CV → Option CV
  | [.agg [.int .i64 u, .bool st]] => some (printM u st)
  | _ => none

theorem dec_len : ∀ n : Nat, n < 8 → (Lib.decDigits n).length ≤ 10 := by
  intro n h
  rw [Lib.decDigits, dif_pos (by omega)]
  simp

theorem print_runs (h11 : K 11 = pureC checkF) (h26 : K 26 = pureC itoaF) (h27 : K 27 = effC joinF) : ∀ args v, printF args = some v → args.length = f_prio_Print.np ∧ ∀ cw, Runs K f_prio_Print args cw v := by
  intro args v h
  unfold printF at h
  split at h
  · rename_i u st
    cases h
    refine ⟨rfl, fun cw Q hQ => ?_⟩
    have fin : ∀ (cw' : CW) l e, CV.tup [.str l, .int .i64 e] = printM u st → (∀ b, b < cw.next → cw'.get b = cw.get b) → Q .ret [(2, .str l), (3, .int .i64 e)] cw' := by
      intro cw' l e he hk
      refine hQ .ret _ _ _ (.inr rfl) rfl ?_ hk
      rw [← he]; exact frz_plain rfl
    clear hQ
    simp only [f_prio_Print, go_sem, wpa_pure h11, checkF]
    cases hc : (checkM u != 0) <;> simp only [go_sem]
    case true =>
      refine fin _ _ _ ?_ fun b hb => ?_
      · rw [printM, if_pos (by simpa using hc)]
      · rw [push_old (by omega)]
    have hc0 : checkM u = 0 := by simpa using hc
    have hr : 0 ≤ u ∧ u ≤ 7 := by
      unfold checkM at hc0
      split at hc0
      · cases hc0
      · omega
    have hdl := dec_len u.toNat (by omega)
    have hM : printM u st = .tup [.str (Lib.join (printL u st) [44, 32]), .int .i64 0] := by rw [printM, if_neg (by simp [hc0])]
    rw [hM] at fin
    have hi : 0 ≤ u ∧ u < 100 := by omega
    have hlim : (1 : Nat) ≤ lim := by decide
    have hlim2 : (2 : Nat) ≤ lim := by decide
    have hjl : (Lib.join (printL u st) [44, 32]).length ≤ 100000 := by
      unfold printL Lib.join
      split <;> split <;> simp [List.intercalate] <;> omega
    have hll : (printL u st).length ≤ 1000 := by
      unfold printL
      split <;> split <;> simp
    have hadd : 2 + (Lib.decDigits u.toNat).length ≤ 9223372036854775807 := by omega
    have hj : ∀ (v : CV) (cw' : CW) (cs : List CV) (n : Nat), isStr v = false → seqOf cw' 1 v = some (cs, n) → strsOf cs = some (printL u st) → joinF [v, .str [44, 32]] cw' = some (.str (Lib.join (printL u st) [44, 32]), cw') := by
      intro v cw' cs n h0 h1 h2
      simp only [joinF, h0, Bool.false_eq_true, if_false, h1, h2, Option.bind_some, if_pos (And.intro hjl hll)]
    cases h3 : (u != 3) <;> simp only [go_sem]
    · have h3' : u = 3 := by simpa using h3
      cases st <;> simp only [go_sem, hlim, wpa_eff h27]
      · rw [hj _ _ [] 0 rfl (by simp only [go_sem]) (by simp [printL, h3', strsOf])]
        simp only [go_sem]
        exact fin _ _ _ rfl fun b hb => by rw [push_old (by omega)]
      · rw [hj _ _ [.str [105]] 1 rfl (by simp only [go_sem]) (by simp [printL, h3', strsOf])]
        simp only [go_sem]
        exact fin _ _ _ rfl fun b hb => by rw [push_old (by simp only [go_sem]; omega), push_old (by omega)]
    · have h3' : ¬ u = 3 := by simpa using h3
      simp only [wpa_pure h26, itoaF, hi, hadd, hlim, go_sem]
      cases st <;> simp only [go_sem, hlim, wpa_eff h27]
      · rw [hj _ _ [.str (117 :: 61 :: Lib.decDigits u.toNat)] 1 rfl (by simp only [go_sem]) (by simp [printL, h3', strsOf])]
        simp only [go_sem]
        exact fin _ _ _ rfl fun b hb => by rw [push_old (by simp only [go_sem]; omega), push_old (by omega)]
      · simp only [go_sem, hlim2, ne_eq, not_true_eq_false, wpa_eff h27]
        rw [hj _ _ [.str (117 :: 61 :: Lib.decDigits u.toNat), .str [105]] 2 rfl (by simp only [go_sem]) (by simp [printL, h3', strsOf])]
        simp only [go_sem]
        exact fin _ _ _ rfl fun b hb => by rw [push_old (by simp only [go_sem]; omega), kill_old (by omega), push_old (by simp only [go_sem]; omega), push_old (by omega)]
  · cases h

end Go.Cs

/- What stands between commas: the library's words, and ours. -/
namespace Go.Cs

theorem index_comma_eq (r : List UInt8) : Lib.index (44 :: r) [44] = 0 := by simp [Lib.index, List.isPrefixOf]
theorem index_comma_ne {c : UInt8} (r : List UInt8) (h : ¬ c = 44) : Lib.index (c :: r) [44] = if Lib.index r [44] == -1 then -1 else Lib.index r [44] + 1 := by
  have : ¬ (44 : UInt8) = c := fun e => h e.symm
  simp [Lib.index, List.isPrefixOf, this]

theorem splitK_comma : ∀ s : List UInt8, Lib.splitK [44] 0 (Lib.count s [44]) s = splitP s
  | [] => by
    have : Lib.count [] [44] = 0 := by decide
    rw [this]; rfl
  | c :: r => by
    have ih := splitK_comma r
    by_cases h : c = 44
    · subst h
      rw [Lib.count_cons_eq, Nat.add_comm, Lib.splitK, index_comma_eq]
      simp only [splitP, if_true]
      rw [← ih]
      rfl
    · rw [Lib.count_cons_ne c 44 r h]
      simp only [splitP, if_neg h]
      rw [← ih]
      cases hk : Lib.count r [44] with
      | zero => rfl
      | succ k =>
        have hm : ¬ (Lib.index r [44] == -1) = true := by
          intro hh
          have := Lib.count_miss (beq_iff_eq.1 hh)
          omega
        have hge := Lib.index_ge r [44]
        have hne : Lib.index r [44] ≠ -1 := fun e => hm (beq_iff_eq.2 e)
        obtain ⟨i, hi⟩ : ∃ i : Nat, Lib.index r [44] = i := ⟨(Lib.index r [44]).toNat, by omega⟩
        rw [Lib.splitK, Lib.splitK, index_comma_ne r h, if_neg hm, hi]
        have e1 : ¬ ((i : Int) + 1 == -1) = true := by intro hh; have := beq_iff_eq.1 hh; omega
        have e2 : ¬ ((i : Int) == -1) = true := by intro hh; have := beq_iff_eq.1 hh; omega
        have e3 : ((i : Int) + 1).toNat = i + 1 := by omega
        rw [if_neg e1, if_neg e2, e3]
        simp

theorem splitB_comma (s : List UInt8) : (Lib.splitB ⟨#[44]⟩ 0 (Lib.countB ⟨s.toArray⟩ ⟨#[44]⟩) ⟨s.toArray⟩) = (splitP s).map fun l => ⟨l.toArray⟩ := by
  have h := Lib.splitB_data ⟨#[44]⟩ 0 (Lib.countB ⟨s.toArray⟩ ⟨#[44]⟩) ⟨s.toArray⟩
  have h2 : Lib.splitK [44] 0 (Lib.countB ⟨s.toArray⟩ ⟨#[44]⟩) s = splitP s := splitK_comma s
  have h3 : (Lib.splitB ⟨#[44]⟩ 0 (Lib.countB ⟨s.toArray⟩ ⟨#[44]⟩) ⟨s.toArray⟩).map (·.data.toList) = splitP s := h.trans h2
  rw [← h3, List.map_map]
  symm
  conv => rhs; rw [← List.map_id (Lib.splitB ⟨#[44]⟩ 0 (Lib.countB ⟨s.toArray⟩ ⟨#[44]⟩) ⟨s.toArray⟩)]
  exact List.map_congr_left fun b _ => by cases b; rfl

theorem countB_comma (s : List UInt8) : Lib.countB ⟨s.toArray⟩ ⟨#[44]⟩ + 1 = (splitP s).length := by
  have h := Lib.splitB_all ⟨#[44]⟩ (by decide) 0 _ (⟨s.toArray⟩ : ByteArray) rfl
  rw [splitB_comma, List.length_map] at h
  exact h.symm

end Go.Cs

/- The seat of prio: contracts of the library, as the canonical machine takes them. -/
namespace Go.Cs
open Go.RowKit (Below)
open Go.Proofs (Tryd.prog)

/-- What is known of the package variables. -/
def GP (N : Nat) (w : World) : Prop := 2 ≤ N ∧ ∃ m, w.cell? ⟨1, 0, none⟩ = some (.int .i64 m)

theorem GP_at {N : Nat} {w0 w : World} (h : GP N w0) (hb : Below N w0 w) : ∃ m, w.cell? ⟨1, 0, none⟩ = some (.int .i64 m) := by
  obtain ⟨h4, m, hm⟩ := h
  exact ⟨m, by rw [hb.cell (p := ⟨1, 0, none⟩) (by show 1 < N; omega)]; exact hm⟩

theorem GP_st : ∀ N w0 w, GP N w0 → Below N w0 w → N ≤ w.heap.size → GP w.heap.size w :=
  fun _ _ _ h hb hN => ⟨Nat.le_trans h.1 hN, GP_at h hb⟩

theorem idx_sound : Sound Tryd.prog fidP GP 63 (pureC idxF) := by
  refine sound_lib ⟨Go.Proofs.Tryd.f63, Go.Proofs.Tryd.func63, by decide, by kernel_rfl⟩ ?_
  intro args v h
  unfold idxF at h
  split at h
  · rename_i o n
    cases h
    refine ⟨[.string ⟨o.toArray⟩, .int .u8 n], _, rfl, rfl, fun N w0 w hG hb hN => ?_⟩
    refine (Go.Proofs.Tryd.strings_IndexByte ⟨o.toArray⟩ n w).mono ?_
    rintro e w' ⟨rfl, rfl⟩
    exact ⟨rfl, Below.refl _ _⟩
  · cases h

theorem itoa_sound : Sound Tryd.prog fidP GP 21 (pureC itoaF) := by
  refine sound_lib ⟨Go.Proofs.Tryd.f21, Go.Proofs.Tryd.func21, by decide, by kernel_rfl⟩ ?_
  intro args v h
  unfold itoaF at h
  split at h
  · rename_i n
    split at h
    case isFalse => cases h
    rename_i hn
    cases h
    refine ⟨[.int .i64 n], _, rfl, rfl, fun N w0 w hG hb hN => ?_⟩
    have e1 : n = (n.toNat : Int) := by omega
    have := Go.Proofs.Tryd.strconv_Itoa_small n.toNat (by omega) w
    rw [← e1] at this
    refine this.mono ?_
    rintro e w' ⟨rfl, rfl⟩
    exact ⟨rfl, Below.refl _ _⟩
  · cases h

theorem trim_sound : Sound Tryd.prog fidP GP 28 (pureC trimF) := by
  refine sound_lib ⟨Go.Proofs.Tryd.f28, Go.Proofs.Tryd.func28, by decide, by kernel_rfl⟩ ?_
  intro args v h
  unfold trimF at h
  split at h
  · rename_i s p
    split at h
    case isFalse => cases h
    rename_i hc
    obtain ⟨hl, rfl⟩ := hc
    cases h
    refine ⟨[.string ⟨s.toArray⟩, .string ⟨#[32, 9]⟩], _, rfl, rfl, fun N w0 w hG hb hN => ?_⟩
    refine (Go.Proofs.Any.strings_Trim_laid Go.Proofs.Tryd.lays160 (by kernel_rfl) ⟨s.toArray⟩ ⟨#[32, 9]⟩ w (by simp [ByteArray.size]; omega) (by decide) (Go.Proofs.ascii_of_all (by decide))).mono ?_
    rintro e w' ⟨rfl, hb'⟩
    exact ⟨rfl, hb'⟩
  · cases h

theorem cut_sound : Sound Tryd.prog fidP GP 46 (pureC cut3F) := by
  refine sound_lib ⟨Go.Proofs.Tryd.f46, Go.Proofs.Tryd.func46, by decide, by kernel_rfl⟩ ?_
  intro args v h
  unfold cut3F at h
  split at h
  · rename_i s p
    split at h
    case isFalse => cases h
    rename_i hl
    cases h
    refine ⟨[.string ⟨s.toArray⟩, .string ⟨p.toArray⟩], _, rfl, rfl, fun N w0 w hG hb hN => ?_⟩
    obtain ⟨m, hm⟩ := GP_at hG hb
    refine (Go.Proofs.Tryd.strings_Cut ⟨s.toArray⟩ ⟨p.toArray⟩ m w (by simp [ByteArray.size]; omega) hm).mono ?_
    rintro e w' ⟨rfl, n, rfl⟩
    exact ⟨rfl, ⟨rfl, rfl, rfl, Nat.le_refl _, fun _ _ => rfl⟩⟩
  · cases h

theorem strs_at : ∀ {cs : List CV} {ls : List (List UInt8)}, strsOf cs = some ls → cs = ls.map CV.str
  | [], ls, h => by cases h; rfl
  | .str l :: r, ls, h => by
    simp only [strsOf, Option.bind_eq_some_iff] at h
    obtain ⟨q, hq, h⟩ := h
    cases h
    rw [strs_at hq]; rfl
  | .int _ _ :: _, _, h => by cases h
  | .bool _ :: _, _, h => by cases h
  | .nilp :: _, _, h => by cases h
  | .nils :: _, _, h => by cases h
  | .nilm :: _, _, h => by cases h
  | .nilf :: _, _, h => by cases h
  | .nili :: _, _, h => by cases h
  | .agg _ :: _, _, h => by cases h
  | .tup _ :: _, _, h => by cases h
  | .ptr _ _ :: _, _, h => by cases h
  | .row _ _ :: _, _, h => by cases h
  | .vec _ _ _ :: _, _, h => by cases h
  | .ref _ _ _ _ :: _, _, h => by cases h
  | .map _ :: _, _, h => by cases h
  | .fn _ _ _ :: _, _, h => by cases h
  | .ifc _ _ :: _, _, h => by cases h

theorem cell_new (w : World) (cs : Array Value) (t : TypeId) (i : Nat) : (w.alloc (.cells cs t)).cell? ⟨w.heap.size, i, none⟩ = cs[i]? := by
  have h : (w.alloc (.cells cs t)).heap[w.heap.size]? = some (.cells cs t) := (Go.MapKept.heap_alloc w _).1
  simp only [World.cell?, h]
  rfl

/-- strings.Split at a comma; what stands between the commas. -/
theorem split_sound : Sound Tryd.prog fidP GP 29 (pureC splitF) := by
  refine ⟨⟨Go.Proofs.Tryd.f29, Go.Proofs.Tryd.func29, by decide, by kernel_rfl⟩, ?_⟩
  rintro args cw Q ⟨v, hv, hq⟩ N w0 X w rargs hG hS hA
  unfold splitF at hv
  split at hv
  · rename_i s p
    split at hv
    case isFalse => cases hv
    rename_i hc
    obtain ⟨hl, rfl⟩ := hc
    cases hv
    have hra := args_plain (vs := [.string ⟨s.toArray⟩, .string ⟨#[44]⟩]) rfl hA
    subst hra
    obtain ⟨m, hm⟩ := GP_at hG hS.below
    refine (Go.Proofs.Tryd.strings_Split ⟨s.toArray⟩ ⟨#[44]⟩ m w (by simp [ByteArray.size]; omega) hm (by decide)).mono ?_
    rintro e w' ⟨rfl, rfl⟩
    rw [countB_comma s, splitB_comma s]
    obtain ⟨s1, ex⟩ := hS.imm (.cells (((splitP s).map fun l => (⟨l.toArray⟩ : ByteArray)).map Value.string).toArray 9)
    refine ⟨_, _, cw, _, rfl, hq, s1, ex, .vec (Nat.le_refl _) (fun _ => rfl) (fun i c hc => ?_) fun i c hc => ?_⟩
    · rw [List.getElem?_map] at hc
      obtain ⟨l, hl', rfl⟩ := Option.map_eq_some_iff.1 hc
      refine ⟨rfl, .inr rfl, ?_⟩
      rw [Nat.zero_add, cell_new]
      simp [hl']
    · rw [List.getElem?_map] at hc
      obtain ⟨l, hl', rfl⟩ := Option.map_eq_some_iff.1 hc
      unfold cellD
      rw [Nat.zero_add, cell_new]
      simp only [List.getElem?_toArray, List.getElem?_map, hl', Option.map_some, Option.getD_some]
      exact VR.str' l
  · cases hv


/-- strings.Join over a slice of whatever making. -/
theorem join_sound : Sound Tryd.prog fidP GP 22 (effC joinF) := by
  refine ⟨⟨Go.Proofs.Tryd.f22, Go.Proofs.Tryd.func22, by decide, by kernel_rfl⟩, ?_⟩
  rintro args cw Q ⟨⟨r, cw'⟩, hv, hq⟩ N w0 X w rargs hG hS hA
  unfold joinF at hv
  split at hv
  · rename_i v sep
    split at hv
    case isTrue => cases hv
    rename_i hns
    simp only [Option.bind_eq_some_iff] at hv
    obtain ⟨⟨cs, n⟩, h1, ls, h2, hv⟩ := hv
    split at hv
    case isFalse => cases hv
    rename_i hlen0
    obtain ⟨hlen, hcount⟩ := hlen0
    cases hv
    obtain ⟨rv, hrv⟩ : ∃ rv, rargs = #[rv, .string ⟨sep.toArray⟩] ∧ VR fidP X w v rv := by
      obtain ⟨h3, h4⟩ := hA
      refine ⟨rargs.getD 0 undef, ?_, h4 0 v rfl⟩
      have hsep := (h4 1 (.str sep) rfl).str_inv
      refine Array.ext (by simpa using h3) fun i hi hi' => ?_
      match i with
      | 0 => simp [Array.getD_eq_getD_getElem?, hi]
      | 1 => simpa [Array.getD_eq_getD_getElem?, hi] using hsep
      | i + 2 => simp at hi'; omega
    obtain ⟨rfl, hvr⟩ := hrv
    have hcs := strs_at h2
    have fin : ∀ (bk o c : Nat), rv = .slice (some ⟨bk, o, none⟩) n c → n ≤ c → bk < w.heap.size → ls.length = n → (∀ (j : Nat) (l : List UInt8), ls[j]? = some l → w.cell? ⟨bk, o + j, none⟩ = some (.string ⟨l.toArray⟩)) →
        Calls Tryd.prog 22 #[rv, .string ⟨sep.toArray⟩] w fun e w' => ∃ c v cw' X', e = .returned v ∧ Q c cw' ∧ Sim fidP N w0 X' cw' w' ∧ Ext X w X' w' ∧ VR fidP X' w' c v := by
      rintro bk o c rfl hnc hbk hln hcell
      have hmap : (ls.map fun l => (⟨l.toArray⟩ : ByteArray)).map (·.data.toList) = ls := by
        rw [List.map_map]; exact (List.map_congr_left fun l _ => rfl).trans (List.map_id ls)
      have hc := Go.Proofs.Tryd.strings_Join bk o c (ls.map fun l => ⟨l.toArray⟩) ⟨sep.toArray⟩ w (fun j x hx => by
        rw [List.getElem?_map] at hx
        obtain ⟨l, hl, rfl⟩ := Option.map_eq_some_iff.1 hx
        exact hcell j l hl) hbk (by simp; omega) (by simp; omega) (by rw [hmap]; show (Lib.join ls sep).length ≤ _; omega)
      rw [List.length_map, hln, hmap] at hc
      refine hc.mono ?_
      rintro e w' ⟨rfl, hb⟩
      obtain ⟨s1, ex⟩ := hS.same hb
      exact ⟨_, _, _, X, rfl, hq, s1, ex, VR.str' _⟩
    have fin0 : ∀ (a : Option Addr) (c : Nat), rv = .slice a 0 c → ls = [] →
        Calls Tryd.prog 22 #[rv, .string ⟨sep.toArray⟩] w fun e w' => ∃ c v cw' X', e = .returned v ∧ Q c cw' ∧ Sim fidP N w0 X' cw' w' ∧ Ext X w X' w' ∧ VR fidP X' w' c v := by
      rintro a c rfl rfl
      refine (Go.Proofs.Tryd.strings_Join_none a c ⟨sep.toArray⟩ w).mono ?_
      rintro e w' ⟨rfl, rfl⟩
      exact ⟨_, _, _, X, rfl, hq, hS, Ext.refl _ _, VR.str' []⟩
    cases hvr with
    | nils =>
      cases h1
      refine fin0 none 0 rfl ?_
      simpa using hcs
    | @vec vcs vn cap rr oo clip hnc hcl hI hV =>
      simp only [seqOf] at h1
      split at h1
      · rename_i hl1
        cases h1
        simp only at hcs
        by_cases hz : ls = []
        · have : n = 0 := by rw [hcs, hz] at hl1; simpa using hl1.symm
          subst this
          exact fin0 _ _ rfl hz
        · have hpos : 0 < ls.length := List.length_pos_iff.2 hz
          have hln : ls.length = n := by rw [hcs] at hl1; simpa using hl1
          refine fin rr oo cap rfl hnc ?_ hln fun j l hj => ?_
          · have h0 : cs[0]? = some (.str ls[0]) := by rw [hcs]; simp [hpos]
            exact hS.lt rr (oo + 0) (hI 0 _ h0).2.1
          · have hj' : cs[j]? = some (.str l) := by rw [hcs]; simp [hj]
            have h5 := (hI j _ hj').2.2
            have h6 := (hV j _ hj').str_inv
            obtain ⟨q, hq'⟩ := Option.isSome_iff_exists.1 h5
            unfold cellD at h6
            rw [hq'] at h6 ⊢
            simpa using h6
      · cases h1
    | @ref b off rn sz cap a hb hnc hm =>
      simp only [seqOf] at h1
      split at h1
      · rename_i hsz
        subst hsz
        split at h1
        · rename_i bcs hg
          split at h1
          · rename_i hle
            cases h1
            simp only at hcs
            obtain ⟨m, hM, hrow⟩ := hS.rowAt hg
            obtain ⟨rfl, _⟩ := hm m hM
            have hln : ls.length = n := by
              have := congrArg List.length hcs
              simp at this; omega
            obtain ⟨_, m', hM', hor⟩ := hS.blk b _ hg
            rw [hM] at hM'; cases hM'
            refine fin m.1 (m.2.1 + off) cap rfl hnc hor.at hln fun j l hj => ?_
            have hjl : j < n := by rw [← hln]; exact (List.getElem?_eq_some_iff.1 hj).1
            have hj' : bcs[off + j]? = some (.str l) := by
              have : ((bcs.drop off).take (n * 1))[j]? = some (CV.str l) := by rw [hcs]; simp [hj]
              rw [List.getElem?_take, List.getElem?_drop] at this
              rwa [if_pos (by omega)] at this
            obtain ⟨_, q, hq1, hq2⟩ := hrow (off + j) _ hj'
            rw [Nat.add_assoc, hq1, hq2.str_inv]
          · cases h1
        · cases h1
      · cases h1
    | str => exact absurd rfl hns
    | _ => cases h1
  · cases hv

end Go.Cs

/- prio: what is printed is parsed as it was: the plain law. -/
namespace Go.Cs

theorem mem_dropWhile_of {α : Type} {p : α → Bool} {c : α} : ∀ {l : List α}, c ∈ l → p c = false → c ∈ l.dropWhile p
  | x :: l, h, hp => by
    rw [List.dropWhile_cons]
    split
    · rename_i hx
      rcases List.mem_cons.1 h with rfl | h
      · rw [hp] at hx; cases hx
      · exact mem_dropWhile_of h hp
    · exact h

theorem trimS_ne {s p : List UInt8} {c : UInt8} (h : c ∈ s) (hp : p.contains c = false) : Lib.trimS s p ≠ [] := by
  have : c ∈ Lib.trimS s p := by
    unfold Lib.trimS Lib.trimLeftS Lib.trimRightS
    exact mem_dropWhile_of (List.mem_reverse.2 (mem_dropWhile_of (List.mem_reverse.2 h) hp)) hp
  intro e
  rw [e] at this
  cases this

theorem trimS_x (m : List UInt8) : ∃ r, Lib.trimS (120 :: m) [32, 9] = 120 :: r := by
  have hx : ([32, 9] : List UInt8).contains 120 = false := by decide
  unfold Lib.trimS Lib.trimLeftS Lib.trimRightS
  rw [List.reverse_cons, List.dropWhile_append]
  split
  · refine ⟨[], ?_⟩
    simp [List.dropWhile_cons]
  · refine ⟨((List.dropWhile (([32, 9] : List UInt8).contains ·) m.reverse)).reverse, ?_⟩
    rw [List.reverse_append, List.reverse_singleton, List.singleton_append, List.dropWhile_cons, hx]
    simp

theorem index_61 (r : List UInt8) : Lib.index (120 :: r) [61] = if Lib.index r [61] == -1 then -1 else Lib.index r [61] + 1 := by
  simp [Lib.index, List.isPrefixOf]

theorem cut_x (r : List UInt8) : ∃ q, (Lib.cut (120 :: r) [61]).1 = 120 :: q := by
  have hge := Lib.index_ge r [61]
  unfold Lib.cut
  split
  · rename_i h
    rw [index_61] at h ⊢
    split at h
    · omega
    · rename_i hn
      rw [if_neg hn]
      have hne : Lib.index r [61] ≠ -1 := fun e => hn (beq_iff_eq.2 e)
      have e : (Lib.index r [61] + 1).toNat = (Lib.index r [61]).toNat + 1 := by omega
      rw [e]
      exact ⟨_, rfl⟩
  · exact ⟨_, rfl⟩

theorem keyM_x (m : List UInt8) : ∃ q, keyM (120 :: m) = 120 :: q := by
  obtain ⟨r, hr⟩ := trimS_x m
  unfold keyM
  rw [hr]
  exact cut_x r

theorem splitP_ne : ∀ a : List UInt8, splitP a ≠ []
  | [] => by simp [splitP]
  | c :: a => by
    simp only [splitP]
    split
    · simp
    · split <;> simp

theorem splitP_append : ∀ a b : List UInt8, splitP (a ++ 44 :: b) = splitP a ++ splitP b
  | [], b => by simp [splitP]
  | c :: a, b => by
    have ih := splitP_append a b
    simp only [List.cons_append, splitP]
    split
    · rw [ih]; rfl
    · rw [ih]
      cases h : splitP a with
      | nil => exact absurd h (splitP_ne a)
      | cons p ps => rfl

theorem splitP_one : ∀ a : List UInt8, (splitP a).length = 1 → splitP a = [a]
  | [], _ => rfl
  | c :: a, h => by
    simp only [splitP] at h ⊢
    split at h
    · have : (splitP a).length = 0 := by simpa using h
      exact absurd (List.length_eq_zero_iff.1 this) (splitP_ne a)
    · rename_i hc
      rw [if_neg hc]
      cases h2 : splitP a with
      | nil => exact absurd h2 (splitP_ne a)
      | cons p ps =>
        rw [h2] at h
        have : ps = [] := by simpa using h
        subst this
        have := splitP_one a (by rw [h2]; rfl)
        rw [h2] at this
        cases this
        rfl

theorem itemsL_append : ∀ {a b : List (List UInt8)} {x y : List CV}, itemsL a = some x → itemsL b = some y → itemsL (a ++ b) = some (x ++ y)
  | [], b, x, y, h1, h2 => by cases h1; exact h2
  | p :: a, b, x, y, h1, h2 => by
    simp only [itemsL] at h1
    split at h1
    · rename_i hp
      obtain ⟨r, hr, rfl⟩ := Option.map_eq_some_iff.1 h1
      simp only [List.cons_append, itemsL, if_pos hp, itemsL_append hr h2, Option.map_some]
    · cases h1

theorem lastL_append {key : List UInt8} : ∀ {a : List (List UInt8)} {x y : List CV} {acc : List UInt8}, itemsL a = some x → lastL key (x ++ y) acc = lastL key y (lastL key x acc)
  | [], x, y, acc, h => by cases h; rfl
  | p :: a, x, y, acc, h => by
    simp only [itemsL] at h
    split at h
    · obtain ⟨r, hr, rfl⟩ := Option.map_eq_some_iff.1 h
      simp only [List.cons_append, lastL]
      exact lastL_append hr
    · cases h

theorem itemsM_of {s : List UInt8} {cs : List CV} (h1 : s.length ≤ 200) (h2 : Lib.trimS s [32, 9] ≠ []) (h3 : itemsL (splitP s) = some cs) (h4 : (splitP s).length ≤ 16) : itemsM s = .tup [.vec cs (splitP s).length false, .int .i64 0] := by
  rw [itemsM, if_neg (by omega), if_neg h2, h3]
  simp only
  rw [if_neg (by omega), if_neg (splitP_ne s)]

/-- What one member alone tells of itself. -/
theorem itemsM_one {s : List UInt8} {cs : List CV} (h : itemsM s = .tup [.vec cs 1 false, .int .i64 0]) : splitP s = [s] ∧ itemOk s = true ∧ cs = [.str (keyM s), .str (valM s)] := by
  unfold itemsM at h
  split at h
  · simp at h
  · split at h
    · simp at h
    · split at h
      · simp at h
      · rename_i cs' hcs
        split at h
        · simp at h
        · split at h
          · simp at h
          · simp only [CV.tup.injEq, List.cons.injEq, CV.vec.injEq, and_true] at h
            obtain ⟨rfl, h1⟩ := h
            have hs := splitP_one s h1
            rw [hs] at hcs
            simp only [itemsL] at hcs
            split at hcs
            · rename_i hok
              simp only [Option.map_some, Option.some.injEq] at hcs
              exact ⟨hs, hok, hcs.symm⟩
            · cases hcs

/-- What is printed. -/
def prS (u : Int) (st : Bool) : List UInt8 := Lib.join (printL u st) [44, 32]
def prOk (u : Int) (st : Bool) : Bool :=
  let s := prS u st
  let lu := lastL [117] (itemsC s) []
  let li := lastL [105] (itemsC s) []
  decide (s.length ≤ 6) && itemsE s == 0 && checkM u == 0 && (mergeU 3 lu == u) && (mergeS false li == st) &&
  (if u = 3 then numOk lu == false else (numOk lu && numV lu == u)) && (if st then li == [63, 49] else li == []) &&
  (if s == [] then u == 3 && !st else (Lib.trimS s [32, 9] != []) && (itemsL (splitP s)).isSome && decide ((splitP s).length ≤ 2))

theorem prOk_all : ((List.range 8).all fun u => prOk (u : Nat) true && prOk (u : Nat) false) = true := by kernel_rfl

structure Pr (u : Int) (st : Bool) : Prop where
  len : (prS u st).length ≤ 6
  parse : mergeM 3 false (prS u st) = .tup [.agg [.int .i64 u, .bool st], .int .i64 0]
  merge : ∀ v sv, checkM v = 0 → mergeM v sv (prS u st) = .tup [.agg [.int .i64 (if u = 3 then v else u), .bool (sv || st)], .int .i64 0]
  alone : prS u st = [] → ∀ more : List UInt8, more.length ≤ 100 → ∀ cs, itemsM (120 :: more) = .tup [.vec cs 1 false, .int .i64 0] → mergeM 3 false (120 :: more) = .tup [.agg [.int .i64 u, .bool st], .int .i64 0]
  back : prS u st ≠ [] → ∀ more : List UInt8, more.length ≤ 100 → ∀ cs, itemsM (120 :: more) = .tup [.vec cs 1 false, .int .i64 0] → mergeM 3 false (prS u st ++ 44 :: 120 :: more) = .tup [.agg [.int .i64 u, .bool st], .int .i64 0]

theorem lastL_x {k : UInt8} (hk : k ≠ 120) (m v acc : List UInt8) : lastL [k] [.str (keyM (120 :: m)), .str v] acc = acc := by
  obtain ⟨q, hq⟩ := keyM_x m
  have : ¬ keyM (120 :: m) = [k] := by
    rw [hq]
    intro e
    injection e with e1
    exact hk e1.symm
  simp [lastL, this]

theorem pr_of {u : Int} (hu : checkM u = 0) (st : Bool) : Pr u st := by
  have hr : 0 ≤ u ∧ u ≤ 7 := by
    unfold checkM at hu
    split at hu
    · cases hu
    · omega
  have hok : prOk u st = true := by
    have := List.all_eq_true.1 prOk_all u.toNat (List.mem_range.2 (by omega))
    have e : ((u.toNat : Nat) : Int) = u := by omega
    rw [e] at this
    simp only [Bool.and_eq_true] at this
    cases st
    · exact this.2
    · exact this.1
  simp only [prOk, Bool.and_eq_true, decide_eq_true_eq, beq_iff_eq] at hok
  obtain ⟨⟨⟨⟨⟨⟨⟨h1, h2⟩, _⟩, h4⟩, h5⟩, h6⟩, h7⟩, h8⟩ := hok
  have hc3 : checkM 3 = 0 := by decide
  refine ⟨h1, ?_, fun v sv hv => ?_, fun he more hm cs hcs => ?_, fun hne more hm cs hcs => ?_⟩
  · rw [mergeM, if_neg (by simp [hc3]), if_neg (by simp [h2]), h4, h5]
  · rw [mergeM, if_neg (by simp [hv]), if_neg (by simp [h2])]
    have e1 : mergeU v (lastL [117] (itemsC (prS u st)) []) = if u = 3 then v else u := by
      unfold mergeU
      split at h6
      · rename_i h3
        rw [if_pos h3, if_neg (by intro hh; rw [beq_iff_eq.1 h6] at hh; exact Bool.noConfusion hh.1)]
      · rename_i h3
        simp only [Bool.and_eq_true, beq_iff_eq] at h6
        rw [if_neg h3, if_pos ⟨h6.1, by rw [h6.2]; exact hr⟩, h6.2]
    have e2 : mergeS sv (lastL [105] (itemsC (prS u st)) []) = (sv || st) := by
      unfold mergeS
      split at h7
      · rename_i h3
        rw [if_pos (beq_iff_eq.1 h7), h3]; simp
      · rename_i h3
        rw [beq_iff_eq.1 h7]
        have : st = false := by simpa using h3
        simp [this]
    rw [e1, e2]
  · obtain ⟨hs, hio, rfl⟩ := itemsM_one hcs
    rw [if_pos (by simp [he])] at h8
    simp only [Bool.and_eq_true, beq_iff_eq, Bool.not_eq_true'] at h8
    obtain ⟨rfl, rfl⟩ := h8
    have hC : itemsC (120 :: more) = [.str (keyM (120 :: more)), .str (valM (120 :: more))] := by simp [itemsC, hcs]
    have hE : itemsE (120 :: more) = 0 := by simp [itemsE, hcs]
    rw [mergeM, if_neg (by simp [hc3]), if_neg (by simp [hE]), hC, lastL_x (by decide), lastL_x (by decide)]
    have : numOk [] = false := by kernel_rfl
    simp [mergeU, mergeS, this]
  · obtain ⟨hs, hio, rfl⟩ := itemsM_one hcs
    rw [if_neg (by simpa using hne)] at h8
    simp only [Bool.and_eq_true, decide_eq_true_eq] at h8
    obtain ⟨⟨h9, h10⟩, h11⟩ := h8
    obtain ⟨xs, hxs⟩ := Option.isSome_iff_exists.1 h10
    have hC0 : itemsC (prS u st) = xs := by
      rw [itemsC, itemsM_of (by omega) (by simpa using h9) hxs (by omega)]
    have hone : itemsL [120 :: more] = some [.str (keyM (120 :: more)), .str (valM (120 :: more))] := by simp [itemsL, hio]
    have hsp : splitP (prS u st ++ 44 :: 120 :: more) = splitP (prS u st) ++ [120 :: more] := by rw [splitP_append, hs]
    have hI := itemsM_of (s := prS u st ++ 44 :: 120 :: more) (cs := xs ++ [.str (keyM (120 :: more)), .str (valM (120 :: more))]) (by simp; omega)
      (trimS_ne (c := 120) (by simp) (by decide)) (by rw [hsp]; exact itemsL_append hxs hone) (by rw [hsp]; simp; omega)
    have hC : itemsC (prS u st ++ 44 :: 120 :: more) = xs ++ [.str (keyM (120 :: more)), .str (valM (120 :: more))] := by rw [itemsC, hI]
    have hE : itemsE (prS u st ++ 44 :: 120 :: more) = 0 := by rw [itemsE, hI]
    rw [mergeM, if_neg (by simp [hc3]), if_neg (by simp [hE]), hC, lastL_append hxs, lastL_append hxs, lastL_x (by decide), lastL_x (by decide), ← hC0, h4, h5]

end Go.Cs
