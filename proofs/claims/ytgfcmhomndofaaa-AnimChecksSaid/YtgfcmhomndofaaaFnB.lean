/- The functions that are walked, as the calculus' small code; each held by the kernel. -/
import Derived.Test.YtgfcmhomndofaaaRows
import Derived.Test.YtgfcmhomndofaaaAv17
namespace Go.Proofs.YtgfcmhomndofaaaAv
open Go
def a21 : AFunc := ⟨1, [(.tmp 2)],
   (.seq
    (.region [⟨(some 1), (.box (.tmp 0)), none⟩, ⟨(some 2), (.mov (.const (.c (.val (.int .i64 0))))), none⟩])
    (.seq
     (.seq
      (.region [⟨(some 6), (.faddr 0 (.tmp 1)), none⟩,
       ⟨(some 7), (.load false 1 (.tmp 6)), none⟩,
       ⟨(some 8), (.call 40 [(.tmp 7), (.const (.c (.val (.int .i64 0)))), (.const (.c (.val (.int .i64 100000000))))]), none⟩,
       ⟨(some 9), (.un .not (.tmp 8)), none⟩,
       ⟨(some 10), (.mov (.tmp 9)), none⟩,
       ⟨(some 11), (.faddr 1 (.tmp 1)), (some (10, false))⟩,
       ⟨(some 12), (.load false 1 (.tmp 11)), (some (10, false))⟩,
       ⟨(some 13), (.call 40 [(.tmp 12), (.const (.c (.val (.int .i64 1)))), (.const (.c (.val (.int .i64 100000000))))]), (some (10, false))⟩,
       ⟨(some 14), (.un .not (.tmp 13)), (some (10, false))⟩,
       ⟨(some 15), (.pick (.tmp 10) (.const (.c (.val (.bool true)))) (.tmp 14)), none⟩,
       ⟨(some 16), (.mov (.tmp 15)), none⟩,
       ⟨(some 17), (.faddr 2 (.tmp 1)), (some (16, false))⟩,
       ⟨(some 18), (.load false 1 (.tmp 17)), (some (16, false))⟩,
       ⟨(some 19), (.call 40 [(.tmp 18), (.const (.c (.val (.int .i64 1)))), (.const (.c (.val (.int .i64 1000))))]), (some (16, false))⟩,
       ⟨(some 20), (.un .not (.tmp 19)), (some (16, false))⟩,
       ⟨(some 21), (.pick (.tmp 16) (.const (.c (.val (.bool true)))) (.tmp 20)), none⟩])
      (.cond (.tmp 21)
       (.seq
        (.region [⟨(some 2), (.mov (.const (.c (.val (.int .i64 1))))), none⟩]) .ret) .skip))
     (.seq
      (.seq
       (.region [⟨(some 22), (.faddr 5 (.tmp 1)), none⟩, ⟨(some 23), (.load true 6 (.tmp 22)), none⟩, ⟨(some 24), (.call 39 [(.tmp 23)]), none⟩, ⟨(some 25), (.un .not (.tmp 24)), none⟩])
       (.cond (.tmp 25)
        (.seq
         (.region [⟨(some 2), (.mov (.const (.c (.val (.int .i64 3))))), none⟩]) .ret) .skip))
      (.seq
       (.region [⟨(some 26), (.faddr 11 (.tmp 1)), none⟩, ⟨(some 27), (.load false 1 (.tmp 26)), none⟩, ⟨(some 28), (.len (.tmp 27)), none⟩, ⟨(some 3), (.mov (.tmp 28)), none⟩])
       (.seq
        (.seq
         (.region [⟨(some 29), (.mov (.tmp 3)), none⟩, ⟨(some 30), (.bin .gtr (.tmp 29) (.const (.c (.val (.int .i64 10))))), none⟩])
         (.cond (.tmp 30)
          (.seq
           (.region [⟨(some 2), (.mov (.const (.c (.val (.int .i64 2))))), none⟩]) .ret) .skip))
        (.seq
         (.seq
          (.region [⟨(some 31), (.mov (.tmp 3)), none⟩,
           ⟨(some 32), (.bin .lss (.tmp 31) (.const (.c (.val (.int .i64 2))))), none⟩,
           ⟨(some 33), (.mov (.tmp 32)), none⟩,
           ⟨(some 34), (.faddr 11 (.tmp 1)), (some (33, false))⟩,
           ⟨(some 35), (.load false 1 (.tmp 34)), (some (33, false))⟩,
           ⟨(some 36), (.iaddr 3 (.tmp 35) (.const (.c (.val (.int .i64 0))))), (some (33, false))⟩,
           ⟨(some 37), (.faddr 0 (.tmp 36)), (some (33, false))⟩,
           ⟨(some 38), (.load false 1 (.tmp 37)), (some (33, false))⟩,
           ⟨(some 39), (.bin .neq (.tmp 38) (.const (.c (.val (.int .i64 0))))), (some (33, false))⟩,
           ⟨(some 40), (.pick (.tmp 33) (.const (.c (.val (.bool true)))) (.tmp 39)), none⟩,
           ⟨(some 41), (.mov (.tmp 40)), none⟩,
           ⟨(some 42), (.faddr 11 (.tmp 1)), (some (41, false))⟩,
           ⟨(some 43), (.load false 1 (.tmp 42)), (some (41, false))⟩,
           ⟨(some 44), (.mov (.tmp 3)), (some (41, false))⟩,
           ⟨(some 45), (.bin .sub (.tmp 44) (.const (.c (.val (.int .i64 1))))), (some (41, false))⟩,
           ⟨(some 46), (.iaddr 3 (.tmp 43) (.tmp 45)), (some (41, false))⟩,
           ⟨(some 47), (.faddr 0 (.tmp 46)), (some (41, false))⟩,
           ⟨(some 48), (.load false 1 (.tmp 47)), (some (41, false))⟩,
           ⟨(some 49), (.bin .neq (.tmp 48) (.const (.c (.val (.int .i64 1000))))), (some (41, false))⟩,
           ⟨(some 50), (.pick (.tmp 41) (.const (.c (.val (.bool true)))) (.tmp 49)), none⟩])
          (.cond (.tmp 50)
           (.seq
            (.region [⟨(some 2), (.mov (.const (.c (.val (.int .i64 3))))), none⟩]) .ret) .skip))
         (.seq
          (.seq
           (.region [⟨(some 51), (.faddr 11 (.tmp 1)), none⟩,
            ⟨(some 52), (.load false 1 (.tmp 51)), none⟩,
            ⟨(some 53), (.slSl 3 (.tmp 52) (some (.const (.c (.val (.int .i64 1))))) none none), none⟩,
            ⟨(some 54), (.len (.tmp 53)), none⟩,
            ⟨(some 55), (.mov (.const (.c (.val (.int .i64 0))))), none⟩])
           (.block 0
            (.loop
             (.seq
              (.region [⟨(some 56), (.bin .lss (.tmp 55) (.tmp 54)), none⟩])
              (.seq
               (.cond (.tmp 56) .skip (.exit 0))
               (.seq
                (.block 1
                 (.seq
                  (.region [⟨(some 57), (.mov (.tmp 55)), none⟩,
                   ⟨(some 58), (.iaddr 3 (.tmp 53) (.tmp 55)), none⟩,
                   ⟨(some 59), (.load true 3 (.tmp 58)), none⟩,
                   ⟨(some 5), (.box (.const (.agg [(.val (.int .i64 0)), (.val (.int .i64 0)), (.val (.int .i64 0))]))), none⟩,
                   ⟨(some 4), (.mov (.tmp 57)), none⟩,
                   ⟨none, (.store 3 (.tmp 5) (.tmp 59)), none⟩])
                  (.seq
                   (.drawn [(⟨(some 60), (.faddr 0 (.tmp 5)), none⟩, (0, 0)),
                    (⟨(some 61), (.load false 1 (.tmp 60)), none⟩, (0, 1)),
                    (⟨(some 62), (.faddr 11 (.tmp 1)), none⟩, (0, 2)),
                    (⟨(some 63), (.load false 1 (.tmp 62)), none⟩, (0, 3)),
                    (⟨(some 64), (.mov (.tmp 4)), none⟩, (0, 4)),
                    (⟨(some 65), (.iaddr 3 (.tmp 63) (.tmp 64)), none⟩, (0, 5)),
                    (⟨(some 66), (.faddr 0 (.tmp 65)), none⟩, (0, 6)),
                    (⟨(some 67), (.load false 1 (.tmp 66)), none⟩, (0, 7)),
                    (⟨(some 68), (.bin .leq (.tmp 61) (.tmp 67)), none⟩, (0, 8))])
                   (.cond (.tmp 68)
                    (.seq
                     (.region [⟨(some 2), (.mov (.const (.c (.val (.int .i64 3))))), none⟩]) .ret) .skip))))
                (.region [⟨(some 69), (.bin .add (.tmp 55) (.const (.c (.val (.int .i64 1))))), none⟩, ⟨(some 55), (.mov (.tmp 69)), none⟩])))))))
          (.seq
           (.region [⟨(some 2), (.mov (.const (.c (.val (.int .i64 0))))), none⟩]) .ret))))))))⟩
set_option maxRecDepth 100000 in
theorem c21 : compFunc Try.prog 21 = some a21 := by kernel_rfl
def a22 : AFunc := ⟨1, [(.tmp 2)],
   (.seq
    (.region [⟨(some 1), (.box (.tmp 0)), none⟩, ⟨(some 2), (.mov (.const (.c (.val (.int .i64 0))))), none⟩])
    (.seq
     (.seq
      (.region [⟨(some 5), (.faddr 0 (.tmp 1)), none⟩,
       ⟨(some 6), (.load false 1 (.tmp 5)), none⟩,
       ⟨(some 7), (.bin .lss (.tmp 6) (.const (.c (.val (.int .i64 0))))), none⟩,
       ⟨(some 8), (.mov (.tmp 7)), none⟩,
       ⟨(some 9), (.faddr 0 (.tmp 1)), (some (8, false))⟩,
       ⟨(some 10), (.load false 1 (.tmp 9)), (some (8, false))⟩,
       ⟨(some 11), (.bin .gtr (.tmp 10) (.const (.c (.val (.int .i64 100000000))))), (some (8, false))⟩,
       ⟨(some 12), (.pick (.tmp 8) (.const (.c (.val (.bool true)))) (.tmp 11)), none⟩,
       ⟨(some 13), (.mov (.tmp 12)), none⟩,
       ⟨(some 14), (.faddr 1 (.tmp 1)), (some (13, false))⟩,
       ⟨(some 15), (.load false 1 (.tmp 14)), (some (13, false))⟩,
       ⟨(some 16), (.bin .lss (.tmp 15) (.const (.c (.val (.int .i64 1))))), (some (13, false))⟩,
       ⟨(some 17), (.pick (.tmp 13) (.const (.c (.val (.bool true)))) (.tmp 16)), none⟩,
       ⟨(some 18), (.mov (.tmp 17)), none⟩,
       ⟨(some 19), (.faddr 1 (.tmp 1)), (some (18, false))⟩,
       ⟨(some 20), (.load false 1 (.tmp 19)), (some (18, false))⟩,
       ⟨(some 21), (.bin .gtr (.tmp 20) (.const (.c (.val (.int .i64 100000000))))), (some (18, false))⟩,
       ⟨(some 22), (.pick (.tmp 18) (.const (.c (.val (.bool true)))) (.tmp 21)), none⟩,
       ⟨(some 23), (.mov (.tmp 22)), none⟩,
       ⟨(some 24), (.faddr 2 (.tmp 1)), (some (23, false))⟩,
       ⟨(some 25), (.load false 1 (.tmp 24)), (some (23, false))⟩,
       ⟨(some 26), (.bin .lss (.tmp 25) (.const (.c (.val (.int .i64 1))))), (some (23, false))⟩,
       ⟨(some 27), (.pick (.tmp 23) (.const (.c (.val (.bool true)))) (.tmp 26)), none⟩,
       ⟨(some 28), (.mov (.tmp 27)), none⟩,
       ⟨(some 29), (.faddr 2 (.tmp 1)), (some (28, false))⟩,
       ⟨(some 30), (.load false 1 (.tmp 29)), (some (28, false))⟩,
       ⟨(some 31), (.bin .gtr (.tmp 30) (.const (.c (.val (.int .i64 1000))))), (some (28, false))⟩,
       ⟨(some 32), (.pick (.tmp 28) (.const (.c (.val (.bool true)))) (.tmp 31)), none⟩])
      (.cond (.tmp 32)
       (.seq
        (.region [⟨(some 2), (.mov (.const (.c (.val (.int .i64 1))))), none⟩]) .ret) .skip))
     (.seq
      (.seq
       (.region [⟨(some 33), (.faddr 5 (.tmp 1)), none⟩, ⟨(some 34), (.load true 6 (.tmp 33)), none⟩, ⟨(some 35), (.call 16 [(.tmp 34)]), none⟩, ⟨(some 36), (.un .not (.tmp 35)), none⟩])
       (.cond (.tmp 36)
        (.seq
         (.region [⟨(some 2), (.mov (.const (.c (.val (.int .i64 3))))), none⟩]) .ret) .skip))
      (.seq
       (.region [⟨(some 37), (.faddr 11 (.tmp 1)), none⟩, ⟨(some 38), (.load false 1 (.tmp 37)), none⟩, ⟨(some 39), (.len (.tmp 38)), none⟩, ⟨(some 3), (.mov (.tmp 39)), none⟩])
       (.seq
        (.seq
         (.region [⟨(some 40), (.mov (.tmp 3)), none⟩, ⟨(some 41), (.bin .gtr (.tmp 40) (.const (.c (.val (.int .i64 10))))), none⟩])
         (.cond (.tmp 41)
          (.seq
           (.region [⟨(some 2), (.mov (.const (.c (.val (.int .i64 2))))), none⟩]) .ret) .skip))
        (.seq
         (.seq
          (.region [⟨(some 42), (.mov (.tmp 3)), none⟩,
           ⟨(some 43), (.bin .lss (.tmp 42) (.const (.c (.val (.int .i64 2))))), none⟩,
           ⟨(some 44), (.mov (.tmp 43)), none⟩,
           ⟨(some 45), (.faddr 11 (.tmp 1)), (some (44, false))⟩,
           ⟨(some 46), (.load false 1 (.tmp 45)), (some (44, false))⟩,
           ⟨(some 47), (.iaddr 3 (.tmp 46) (.const (.c (.val (.int .i64 0))))), (some (44, false))⟩,
           ⟨(some 48), (.faddr 0 (.tmp 47)), (some (44, false))⟩,
           ⟨(some 49), (.load false 1 (.tmp 48)), (some (44, false))⟩,
           ⟨(some 50), (.bin .neq (.tmp 49) (.const (.c (.val (.int .i64 0))))), (some (44, false))⟩,
           ⟨(some 51), (.pick (.tmp 44) (.const (.c (.val (.bool true)))) (.tmp 50)), none⟩,
           ⟨(some 52), (.mov (.tmp 51)), none⟩,
           ⟨(some 53), (.faddr 11 (.tmp 1)), (some (52, false))⟩,
           ⟨(some 54), (.load false 1 (.tmp 53)), (some (52, false))⟩,
           ⟨(some 55), (.mov (.tmp 3)), (some (52, false))⟩,
           ⟨(some 56), (.bin .sub (.tmp 55) (.const (.c (.val (.int .i64 1))))), (some (52, false))⟩,
           ⟨(some 57), (.iaddr 3 (.tmp 54) (.tmp 56)), (some (52, false))⟩,
           ⟨(some 58), (.faddr 0 (.tmp 57)), (some (52, false))⟩,
           ⟨(some 59), (.load false 1 (.tmp 58)), (some (52, false))⟩,
           ⟨(some 60), (.bin .neq (.tmp 59) (.const (.c (.val (.int .i64 1000))))), (some (52, false))⟩,
           ⟨(some 61), (.pick (.tmp 52) (.const (.c (.val (.bool true)))) (.tmp 60)), none⟩])
          (.cond (.tmp 61)
           (.seq
            (.region [⟨(some 2), (.mov (.const (.c (.val (.int .i64 3))))), none⟩]) .ret) .skip))
         (.seq
          (.seq
           (.region [⟨(some 4), (.mov (.const (.c (.val (.int .i64 1))))), none⟩])
           (.block 0
            (.loop
             (.seq
              (.seq
               (.region [⟨(some 62), (.mov (.tmp 4)), none⟩, ⟨(some 63), (.mov (.tmp 3)), none⟩, ⟨(some 64), (.bin .lss (.tmp 62) (.tmp 63)), none⟩])
               (.cond (.tmp 64) .skip (.exit 0)))
              (.seq
               (.block 1
                (.seq
                 (.drawn [(⟨(some 67), (.faddr 11 (.tmp 1)), none⟩, (0, 0)),
                  (⟨(some 68), (.load false 1 (.tmp 67)), none⟩, (0, 1)),
                  (⟨(some 69), (.mov (.tmp 4)), none⟩, (0, 2)),
                  (⟨(some 70), (.bin .sub (.tmp 69) (.const (.c (.val (.int .i64 1))))), none⟩, (0, 3)),
                  (⟨(some 71), (.iaddr 3 (.tmp 68) (.tmp 70)), none⟩, (0, 4)),
                  (⟨(some 72), (.faddr 0 (.tmp 71)), none⟩, (0, 5)),
                  (⟨(some 73), (.load false 1 (.tmp 72)), none⟩, (0, 6)),
                  (⟨(some 74), (.faddr 11 (.tmp 1)), none⟩, (0, 7)),
                  (⟨(some 75), (.load false 1 (.tmp 74)), none⟩, (0, 8)),
                  (⟨(some 76), (.mov (.tmp 4)), none⟩, (0, 9)),
                  (⟨(some 77), (.iaddr 3 (.tmp 75) (.tmp 76)), none⟩, (0, 10)),
                  (⟨(some 78), (.faddr 0 (.tmp 77)), none⟩, (0, 11)),
                  (⟨(some 79), (.load false 1 (.tmp 78)), none⟩, (0, 12)),
                  (⟨(some 80), (.bin .geq (.tmp 73) (.tmp 79)), none⟩, (0, 13))])
                 (.cond (.tmp 80)
                  (.seq
                   (.region [⟨(some 2), (.mov (.const (.c (.val (.int .i64 3))))), none⟩]) .ret) .skip)))
               (.region [⟨(some 65), (.mov (.tmp 4)), none⟩, ⟨(some 66), (.bin .add (.tmp 65) (.const (.c (.val (.int .i64 1))))), none⟩, ⟨(some 4), (.mov (.tmp 66)), none⟩]))))))
          (.seq
           (.region [⟨(some 2), (.mov (.const (.c (.val (.int .i64 0))))), none⟩]) .ret))))))))⟩
set_option maxRecDepth 100000 in
theorem c22 : compFunc Try.prog 22 = some a22 := by kernel_rfl
def a6 : AFunc := ⟨1, [(.tmp 2)],
   (.seq
    (.region [⟨(some 1), (.box (.tmp 0)), none⟩, ⟨(some 2), (.mov (.const (.c (.val (.bool false))))), none⟩])
    (.seq
     (.region [⟨(some 4), (.call 14 []), none⟩, ⟨(some 3), (.mov (.tmp 4)), none⟩])
     (.seq
      (.drawn [(⟨(some 5), (.mov (.tmp 3)), none⟩, (0, 0)),
       (⟨(some 6), (.mov (.tmp 5)), none⟩, (0, 1)),
       (⟨(some 7), (.load true 12 (.tmp 1)), (some (6, true))⟩, (0, 2)),
       (⟨(some 9), (.load true 12 (.tmp 1)), (some (6, true))⟩, (0, 4)),
       (⟨(some 8), (.call 21 [(.tmp 7)]), (some (6, true))⟩, (1, 3)),
       (⟨(some 10), (.call 22 [(.tmp 9)]), (some (6, true))⟩, (1, 5)),
       (⟨(some 11), (.bin .eql (.tmp 8) (.tmp 10)), (some (6, true))⟩, (0, 6)),
       (⟨(some 12), (.pick (.tmp 6) (.tmp 11) (.const (.c (.val (.bool false))))), none⟩, (0, 7)),
       (⟨(some 2), (.mov (.tmp 12)), none⟩, (0, 8))]) .ret)))⟩
set_option maxRecDepth 100000 in
theorem c6 : compFunc Try.prog 6 = some a6 := by kernel_rfl
end Go.Proofs.YtgfcmhomndofaaaAv
