/- The functions that are walked, as the calculus' small code; each held by the kernel. -/
import Derived.Test.YtgfcmhomndofaaaRows
import Derived.Test.YtgfcmhomndofaaaAv17
namespace Go.Proofs.YtgfcmhomndofaaaAv
open Go
def a40 : AFunc := ⟨3, [(.tmp 6)],
   (.seq
    (.region [⟨(some 6), (.mov (.const (.c (.val (.bool false))))), none⟩])
    (.seq
     (.region [⟨(some 7), (.mov (.tmp 0)), none⟩,
      ⟨(some 8), (.mov (.tmp 1)), none⟩,
      ⟨(some 9), (.bin .geq (.tmp 7) (.tmp 8)), none⟩,
      ⟨(some 10), (.mov (.tmp 9)), none⟩,
      ⟨(some 11), (.mov (.tmp 0)), (some (10, true))⟩,
      ⟨(some 12), (.mov (.tmp 2)), (some (10, true))⟩,
      ⟨(some 13), (.bin .leq (.tmp 11) (.tmp 12)), (some (10, true))⟩,
      ⟨(some 14), (.pick (.tmp 10) (.tmp 13) (.const (.c (.val (.bool false))))), none⟩,
      ⟨(some 6), (.mov (.tmp 14)), none⟩]) .ret))⟩
set_option maxRecDepth 100000 in
theorem c40 : compFunc Try.prog 40 = some a40 := by kernel_rfl
def a39 : AFunc := ⟨1, [(.tmp 2)],
   (.seq
    (.region [⟨(some 1), (.box (.tmp 0)), none⟩, ⟨(some 2), (.mov (.const (.c (.val (.bool false))))), none⟩])
    (.seq
     (.seq
      (.region [⟨(some 5), (.faddr 0 (.tmp 1)), none⟩, ⟨(some 6), (.load false 1 (.tmp 5)), none⟩])
      (.block 0
       (.seq
        (.region [⟨(some 8), (.bin .eql (.tmp 6) (.const (.c (.val (.int .i64 1))))), none⟩, ⟨(some 7), (.mov (.tmp 8)), none⟩])
        (.cond (.tmp 7)
         (.seq
          (.region [⟨(some 9), (.load true 6 (.tmp 1)), none⟩,
           ⟨(some 10), (.build [(.val (.int .i64 0)), (.val (.int .i64 0)), (.val (.int .i64 0)), (.val (.int .i64 0)), (.val (.int .i64 0)), (.val (.int .i64 0))] [(0, (1, (.const (.c (.val (.int .i64 1))))))]), none⟩,
           ⟨(some 11), (.eqs false true [.i, .i, .i, .i, .i, .i] (.tmp 9) (.tmp 10)), none⟩,
           ⟨(some 2), (.mov (.tmp 11)), none⟩]) .ret)
         (.seq
          (.region [⟨(some 13), (.bin .eql (.tmp 6) (.const (.c (.val (.int .i64 3))))), none⟩, ⟨(some 12), (.mov (.tmp 13)), none⟩])
          (.cond (.tmp 12)
           (.seq
            (.region [⟨(some 14), (.faddr 5 (.tmp 1)), none⟩,
             ⟨(some 15), (.load false 1 (.tmp 14)), none⟩,
             ⟨(some 16), (.call 40 [(.tmp 15), (.const (.c (.val (.int .i64 1)))), (.const (.c (.val (.int .i64 1000))))]), none⟩,
             ⟨(some 17), (.mov (.tmp 16)), none⟩,
             ⟨(some 18), (.faddr 1 (.tmp 1)), (some (17, true))⟩,
             ⟨(some 19), (.load true 4 (.tmp 18)), (some (17, true))⟩,
             ⟨(some 20), (.build [(.val (.int .i64 0)), (.val (.int .i64 0)), (.val (.int .i64 0)), (.val (.int .i64 0))] []), (some (17, true))⟩,
             ⟨(some 21), (.eqs false true [.i, .i, .i, .i] (.tmp 19) (.tmp 20)), (some (17, true))⟩,
             ⟨(some 22), (.pick (.tmp 17) (.tmp 21) (.const (.c (.val (.bool false))))), none⟩,
             ⟨(some 2), (.mov (.tmp 22)), none⟩]) .ret)
           (.seq
            (.region [⟨(some 24), (.bin .eql (.tmp 6) (.const (.c (.val (.int .i64 2))))), none⟩, ⟨(some 23), (.mov (.tmp 24)), none⟩])
            (.cond (.tmp 23)
             (.seq
              (.seq
               (.region [⟨(some 25), (.faddr 1 (.tmp 1)), none⟩, ⟨(some 26), (.load true 4 (.tmp 25)), none⟩, ⟨(some 27), (.mov (.const (.c (.val (.int .i64 0))))), none⟩])
               (.block 1
                (.loop
                 (.seq
                  (.region [⟨(some 28), (.bin .lss (.tmp 27) (.const (.c (.val (.int .i64 4))))), none⟩])
                  (.seq
                   (.cond (.tmp 28) .skip (.exit 1))
                   (.seq
                    (.block 2
                     (.seq
                      (.region [⟨(some 29), (.idxA false 4 1 (.tmp 26) (.tmp 27)), none⟩, ⟨(some 4), (.mov (.tmp 29)), none⟩])
                      (.seq
                       (.region [⟨(some 30), (.mov (.tmp 4)), none⟩, ⟨(some 31), (.call 40 [(.tmp 30), (.const (.c (.val (.int .i64 0)))), (.const (.c (.val (.int .i64 1000))))]), none⟩, ⟨(some 32), (.un .not (.tmp 31)), none⟩])
                       (.cond (.tmp 32)
                        (.seq
                         (.region [⟨(some 2), (.mov (.const (.c (.val (.bool false))))), none⟩]) .ret) .skip))))
                    (.region [⟨(some 33), (.bin .add (.tmp 27) (.const (.c (.val (.int .i64 1))))), none⟩, ⟨(some 27), (.mov (.tmp 33)), none⟩])))))))
              (.seq
               (.region [⟨(some 34), (.faddr 5 (.tmp 1)), none⟩, ⟨(some 35), (.load false 1 (.tmp 34)), none⟩, ⟨(some 36), (.bin .eql (.tmp 35) (.const (.c (.val (.int .i64 0))))), none⟩, ⟨(some 2), (.mov (.tmp 36)), none⟩]) .ret)) .skip))))))))
     (.seq
      (.region [⟨(some 2), (.mov (.const (.c (.val (.bool false))))), none⟩]) .ret)))⟩
set_option maxRecDepth 100000 in
theorem c39 : compFunc Try.prog 39 = some a39 := by kernel_rfl
def a68 : AFunc := ⟨3, [(.tmp 6)],
   (.seq
    (.region [⟨(some 6), (.mov (.const (.c (.val (.int .i64 0))))), none⟩])
    (.seq
     (.region [⟨(some 8), (.mov (.tmp 2)), none⟩, ⟨(some 9), (.bin .sub (.const (.c (.val (.int .i64 4096)))) (.tmp 8)), none⟩, ⟨(some 7), (.mov (.tmp 9)), none⟩])
     (.seq
      (.region [⟨(some 10), (.mov (.tmp 7)), none⟩,
       ⟨(some 11), (.bin .mul (.const (.c (.val (.int .i64 3)))) (.tmp 10)), none⟩,
       ⟨(some 12), (.mov (.tmp 7)), none⟩,
       ⟨(some 13), (.bin .mul (.tmp 11) (.tmp 12)), none⟩,
       ⟨(some 14), (.mov (.tmp 2)), none⟩,
       ⟨(some 15), (.bin .mul (.tmp 13) (.tmp 14)), none⟩,
       ⟨(some 16), (.mov (.tmp 0)), none⟩,
       ⟨(some 17), (.bin .mul (.tmp 15) (.tmp 16)), none⟩,
       ⟨(some 18), (.mov (.tmp 7)), none⟩,
       ⟨(some 19), (.bin .mul (.const (.c (.val (.int .i64 3)))) (.tmp 18)), none⟩,
       ⟨(some 20), (.mov (.tmp 2)), none⟩,
       ⟨(some 21), (.bin .mul (.tmp 19) (.tmp 20)), none⟩,
       ⟨(some 22), (.mov (.tmp 2)), none⟩,
       ⟨(some 23), (.bin .mul (.tmp 21) (.tmp 22)), none⟩,
       ⟨(some 24), (.mov (.tmp 1)), none⟩,
       ⟨(some 25), (.bin .mul (.tmp 23) (.tmp 24)), none⟩,
       ⟨(some 26), (.bin .add (.tmp 17) (.tmp 25)), none⟩,
       ⟨(some 27), (.mov (.tmp 2)), none⟩,
       ⟨(some 28), (.mov (.tmp 2)), none⟩,
       ⟨(some 29), (.bin .mul (.tmp 27) (.tmp 28)), none⟩,
       ⟨(some 30), (.mov (.tmp 2)), none⟩,
       ⟨(some 31), (.bin .mul (.tmp 29) (.tmp 30)), none⟩,
       ⟨(some 32), (.bin .mul (.tmp 31) (.const (.c (.val (.int .i64 1000))))), none⟩,
       ⟨(some 33), (.bin .add (.tmp 26) (.tmp 32)), none⟩,
       ⟨(some 34), (.bin .quo (.tmp 33) (.const (.c (.val (.int .i64 68719476736))))), none⟩,
       ⟨(some 6), (.mov (.tmp 34)), none⟩]) .ret)))⟩
set_option maxRecDepth 100000 in
theorem c68 : compFunc Try.prog 68 = some a68 := by kernel_rfl
def a41 : AFunc := ⟨2, [(.tmp 4)],
   (.seq
    (.region [⟨(some 2), (.box (.tmp 0)), none⟩, ⟨(some 4), (.mov (.const (.c (.val (.int .i64 0))))), none⟩])
    (.seq
     (.seq
      (.region [⟨(some 8), (.faddr 0 (.tmp 2)), none⟩, ⟨(some 9), (.load false 1 (.tmp 8)), none⟩])
      (.block 0
       (.seq
        (.region [⟨(some 11), (.bin .eql (.tmp 9) (.const (.c (.val (.int .i64 3))))), none⟩, ⟨(some 10), (.mov (.tmp 11)), none⟩])
        (.cond (.tmp 10)
         (.seq
          (.region [⟨(some 12), (.mov (.tmp 1)), none⟩,
           ⟨(some 13), (.faddr 5 (.tmp 2)), none⟩,
           ⟨(some 14), (.load false 1 (.tmp 13)), none⟩,
           ⟨(some 15), (.bin .mul (.tmp 12) (.tmp 14)), none⟩,
           ⟨(some 16), (.bin .quo (.tmp 15) (.const (.c (.val (.int .i64 1000))))), none⟩,
           ⟨(some 17), (.bin .mul (.tmp 16) (.const (.c (.val (.int .i64 1000))))), none⟩,
           ⟨(some 18), (.faddr 5 (.tmp 2)), none⟩,
           ⟨(some 19), (.load false 1 (.tmp 18)), none⟩,
           ⟨(some 20), (.bin .quo (.tmp 17) (.tmp 19)), none⟩,
           ⟨(some 4), (.mov (.tmp 20)), none⟩]) .ret)
         (.seq
          (.region [⟨(some 22), (.bin .eql (.tmp 9) (.const (.c (.val (.int .i64 2))))), none⟩, ⟨(some 21), (.mov (.tmp 22)), none⟩])
          (.cond (.tmp 21)
           (.seq
            (.region [⟨(some 5), (.mov (.const (.c (.val (.int .i64 0))))), none⟩, ⟨(some 6), (.mov (.const (.c (.val (.int .i64 4096))))), none⟩])
            (.seq
             (.block 1
              (.loop
               (.seq
                (.seq
                 (.region [⟨(some 23), (.mov (.tmp 5)), none⟩, ⟨(some 24), (.mov (.tmp 6)), none⟩, ⟨(some 25), (.bin .lss (.tmp 23) (.tmp 24)), none⟩])
                 (.cond (.tmp 25) .skip (.exit 1)))
                (.block 2
                 (.seq
                  (.region [⟨(some 26), (.mov (.tmp 5)), none⟩,
                   ⟨(some 27), (.mov (.tmp 6)), none⟩,
                   ⟨(some 28), (.bin .add (.tmp 26) (.tmp 27)), none⟩,
                   ⟨(some 29), (.bin .quo (.tmp 28) (.const (.c (.val (.int .i64 2))))), none⟩,
                   ⟨(some 7), (.mov (.tmp 29)), none⟩])
                  (.seq
                   (.region [⟨(some 30), (.faddr 1 (.tmp 2)), none⟩,
                    ⟨(some 31), (.iaddrA 4 1 (.tmp 30) (.const (.c (.val (.int .i64 0))))), none⟩,
                    ⟨(some 32), (.load false 1 (.tmp 31)), none⟩,
                    ⟨(some 33), (.faddr 1 (.tmp 2)), none⟩,
                    ⟨(some 34), (.iaddrA 4 1 (.tmp 33) (.const (.c (.val (.int .i64 2))))), none⟩,
                    ⟨(some 35), (.load false 1 (.tmp 34)), none⟩,
                    ⟨(some 36), (.mov (.tmp 7)), none⟩,
                    ⟨(some 37), (.call 68 [(.tmp 32), (.tmp 35), (.tmp 36)]), none⟩,
                    ⟨(some 38), (.mov (.tmp 1)), none⟩,
                    ⟨(some 39), (.bin .geq (.tmp 37) (.tmp 38)), none⟩])
                   (.cond (.tmp 39)
                    (.region [⟨(some 40), (.mov (.tmp 7)), none⟩, ⟨(some 6), (.mov (.tmp 40)), none⟩])
                    (.region [⟨(some 41), (.mov (.tmp 7)), none⟩, ⟨(some 42), (.bin .add (.tmp 41) (.const (.c (.val (.int .i64 1))))), none⟩, ⟨(some 5), (.mov (.tmp 42)), none⟩]))))))))
             (.seq
              (.region [⟨(some 43), (.faddr 1 (.tmp 2)), none⟩,
               ⟨(some 44), (.iaddrA 4 1 (.tmp 43) (.const (.c (.val (.int .i64 1))))), none⟩,
               ⟨(some 45), (.load false 1 (.tmp 44)), none⟩,
               ⟨(some 46), (.faddr 1 (.tmp 2)), none⟩,
               ⟨(some 47), (.iaddrA 4 1 (.tmp 46) (.const (.c (.val (.int .i64 3))))), none⟩,
               ⟨(some 48), (.load false 1 (.tmp 47)), none⟩,
               ⟨(some 49), (.mov (.tmp 5)), none⟩,
               ⟨(some 50), (.call 68 [(.tmp 45), (.tmp 48), (.tmp 49)]), none⟩,
               ⟨(some 4), (.mov (.tmp 50)), none⟩]) .ret))) .skip))))))
     (.seq
      (.region [⟨(some 51), (.mov (.tmp 1)), none⟩, ⟨(some 4), (.mov (.tmp 51)), none⟩]) .ret)))⟩
set_option maxRecDepth 100000 in
theorem c41 : compFunc Try.prog 41 = some a41 := by kernel_rfl
def a15 : AFunc := ⟨2, [(.tmp 4), (.tmp 5)],
   (.seq
    (.region [⟨(some 2), (.box (.tmp 0)), none⟩, ⟨(some 4), (.mov (.const (.c (.val (.int .i64 0))))), none⟩, ⟨(some 5), (.mov (.const (.c (.val (.int .i64 0))))), none⟩])
    (.seq
     (.seq
      (.region [⟨(some 6), (.load true 6 (.tmp 2)), none⟩, ⟨(some 7), (.call 39 [(.tmp 6)]), none⟩, ⟨(some 8), (.un .not (.tmp 7)), none⟩])
      (.cond (.tmp 8)
       (.seq
        (.region [⟨(some 4), (.mov (.const (.c (.val (.int .i64 0))))), none⟩, ⟨(some 5), (.mov (.const (.c (.val (.int .i64 3))))), none⟩]) .ret) .skip))
     (.seq
      (.seq
       (.region [⟨(some 9), (.mov (.tmp 1)), none⟩, ⟨(some 10), (.call 40 [(.tmp 9), (.const (.c (.val (.int .i64 0)))), (.const (.c (.val (.int .i64 1000))))]), none⟩, ⟨(some 11), (.un .not (.tmp 10)), none⟩])
       (.cond (.tmp 11)
        (.seq
         (.region [⟨(some 4), (.mov (.const (.c (.val (.int .i64 0))))), none⟩, ⟨(some 5), (.mov (.const (.c (.val (.int .i64 1))))), none⟩]) .ret) .skip))
      (.seq
       (.region [⟨(some 12), (.load true 6 (.tmp 2)), none⟩,
        ⟨(some 13), (.mov (.tmp 1)), none⟩,
        ⟨(some 14), (.call 41 [(.tmp 12), (.tmp 13)]), none⟩,
        ⟨(some 4), (.mov (.tmp 14)), none⟩,
        ⟨(some 5), (.mov (.const (.c (.val (.int .i64 0))))), none⟩]) .ret))))⟩
set_option maxRecDepth 100000 in
theorem c15 : compFunc Try.prog 15 = some a15 := by kernel_rfl
def a14 : AFunc := ⟨0, [(.tmp 0)],
   (.seq
    (.region [⟨(some 0), (.mov (.const (.c (.val (.bool false))))), none⟩])
    (.seq
     (.region [⟨(some 4), (.build [(.val (.int .i64 0)), (.val (.int .i64 0)), (.val (.int .i64 0)), (.val (.int .i64 0)), (.val (.int .i64 0)), (.val (.int .i64 0))] [(0, (1, (.const (.c (.val (.int .i64 3)))))), (5, (1, (.const (.c (.val (.int .i64 4))))))]), none⟩,
      ⟨(some 5), (.call 15 [(.tmp 4), (.const (.c (.val (.int .i64 600))))]), none⟩,
      ⟨(some 3), (.mov (.tmp 5)), none⟩,
      ⟨(some 6), (.ext (.tmp 3) 0), none⟩,
      ⟨(some 7), (.ext (.tmp 3) 1), none⟩,
      ⟨(some 1), (.mov (.tmp 6)), none⟩,
      ⟨(some 2), (.mov (.tmp 7)), none⟩])
     (.seq
      (.region [⟨(some 8), (.mov (.tmp 2)), none⟩,
       ⟨(some 9), (.bin .eql (.tmp 8) (.const (.c (.val (.int .i64 0))))), none⟩,
       ⟨(some 10), (.mov (.tmp 9)), none⟩,
       ⟨(some 11), (.mov (.tmp 1)), (some (10, true))⟩,
       ⟨(some 12), (.bin .eql (.tmp 11) (.const (.c (.val (.int .i64 500))))), (some (10, true))⟩,
       ⟨(some 13), (.pick (.tmp 10) (.tmp 12) (.const (.c (.val (.bool false))))), none⟩,
       ⟨(some 0), (.mov (.tmp 13)), none⟩]) .ret)))⟩
set_option maxRecDepth 100000 in
theorem c14 : compFunc Try.prog 14 = some a14 := by kernel_rfl
def a16 : AFunc := ⟨1, [(.tmp 2)],
   (.seq
    (.region [⟨(some 1), (.box (.tmp 0)), none⟩, ⟨(some 2), (.mov (.const (.c (.val (.bool false))))), none⟩])
    (.seq
     (.seq
      (.region [⟨(some 4), (.faddr 0 (.tmp 1)), none⟩, ⟨(some 5), (.load false 1 (.tmp 4)), none⟩, ⟨(some 6), (.bin .eql (.tmp 5) (.const (.c (.val (.int .i64 2))))), none⟩])
      (.cond (.tmp 6)
       (.seq
        (.seq
         (.region [⟨(some 3), (.mov (.const (.c (.val (.int .i64 0))))), none⟩])
         (.block 0
          (.loop
           (.seq
            (.seq
             (.region [⟨(some 7), (.mov (.tmp 3)), none⟩, ⟨(some 8), (.bin .lss (.tmp 7) (.const (.c (.val (.int .i64 4))))), none⟩])
             (.cond (.tmp 8) .skip (.exit 0)))
            (.seq
             (.block 1
              (.seq
               (.region [⟨(some 11), (.mov (.tmp 3)), none⟩,
                ⟨(some 12), (.faddr 1 (.tmp 1)), none⟩,
                ⟨(some 13), (.iaddrA 4 1 (.tmp 12) (.tmp 11)), none⟩,
                ⟨(some 14), (.load false 1 (.tmp 13)), none⟩,
                ⟨(some 15), (.bin .lss (.tmp 14) (.const (.c (.val (.int .i64 0))))), none⟩,
                ⟨(some 16), (.mov (.tmp 15)), none⟩,
                ⟨(some 17), (.mov (.tmp 3)), (some (16, false))⟩,
                ⟨(some 18), (.faddr 1 (.tmp 1)), (some (16, false))⟩,
                ⟨(some 19), (.iaddrA 4 1 (.tmp 18) (.tmp 17)), (some (16, false))⟩,
                ⟨(some 20), (.load false 1 (.tmp 19)), (some (16, false))⟩,
                ⟨(some 21), (.bin .gtr (.tmp 20) (.const (.c (.val (.int .i64 1000))))), (some (16, false))⟩,
                ⟨(some 22), (.pick (.tmp 16) (.const (.c (.val (.bool true)))) (.tmp 21)), none⟩])
               (.cond (.tmp 22)
                (.seq
                 (.region [⟨(some 2), (.mov (.const (.c (.val (.bool false))))), none⟩]) .ret) .skip)))
             (.region [⟨(some 9), (.mov (.tmp 3)), none⟩, ⟨(some 10), (.bin .add (.tmp 9) (.const (.c (.val (.int .i64 1))))), none⟩, ⟨(some 3), (.mov (.tmp 10)), none⟩]))))))
        (.seq
         (.region [⟨(some 23), (.faddr 5 (.tmp 1)), none⟩, ⟨(some 24), (.load false 1 (.tmp 23)), none⟩, ⟨(some 25), (.bin .eql (.tmp 24) (.const (.c (.val (.int .i64 0))))), none⟩, ⟨(some 2), (.mov (.tmp 25)), none⟩]) .ret)) .skip))
     (.seq
      (.seq
       (.region [⟨(some 26), (.faddr 1 (.tmp 1)), none⟩,
        ⟨(some 27), (.load true 4 (.tmp 26)), none⟩,
        ⟨(some 28), (.build [(.val (.int .i64 0)), (.val (.int .i64 0)), (.val (.int .i64 0)), (.val (.int .i64 0))] []), none⟩,
        ⟨(some 29), (.eqs true true [.i, .i, .i, .i] (.tmp 27) (.tmp 28)), none⟩])
       (.cond (.tmp 29)
        (.seq
         (.region [⟨(some 2), (.mov (.const (.c (.val (.bool false))))), none⟩]) .ret) .skip))
      (.seq
       (.seq
        (.region [⟨(some 30), (.faddr 0 (.tmp 1)), none⟩, ⟨(some 31), (.load false 1 (.tmp 30)), none⟩, ⟨(some 32), (.bin .eql (.tmp 31) (.const (.c (.val (.int .i64 3))))), none⟩])
        (.cond (.tmp 32)
         (.seq
          (.region [⟨(some 33), (.faddr 5 (.tmp 1)), none⟩,
           ⟨(some 34), (.load false 1 (.tmp 33)), none⟩,
           ⟨(some 35), (.bin .geq (.tmp 34) (.const (.c (.val (.int .i64 1))))), none⟩,
           ⟨(some 36), (.mov (.tmp 35)), none⟩,
           ⟨(some 37), (.faddr 5 (.tmp 1)), (some (36, true))⟩,
           ⟨(some 38), (.load false 1 (.tmp 37)), (some (36, true))⟩,
           ⟨(some 39), (.bin .leq (.tmp 38) (.const (.c (.val (.int .i64 1000))))), (some (36, true))⟩,
           ⟨(some 40), (.pick (.tmp 36) (.tmp 39) (.const (.c (.val (.bool false))))), none⟩,
           ⟨(some 2), (.mov (.tmp 40)), none⟩]) .ret) .skip))
       (.seq
        (.region [⟨(some 41), (.faddr 0 (.tmp 1)), none⟩,
         ⟨(some 42), (.load false 1 (.tmp 41)), none⟩,
         ⟨(some 43), (.bin .eql (.tmp 42) (.const (.c (.val (.int .i64 1))))), none⟩,
         ⟨(some 44), (.mov (.tmp 43)), none⟩,
         ⟨(some 45), (.faddr 5 (.tmp 1)), (some (44, true))⟩,
         ⟨(some 46), (.load false 1 (.tmp 45)), (some (44, true))⟩,
         ⟨(some 47), (.bin .eql (.tmp 46) (.const (.c (.val (.int .i64 0))))), (some (44, true))⟩,
         ⟨(some 48), (.pick (.tmp 44) (.tmp 47) (.const (.c (.val (.bool false))))), none⟩,
         ⟨(some 2), (.mov (.tmp 48)), none⟩]) .ret)))))⟩
set_option maxRecDepth 100000 in
theorem c16 : compFunc Try.prog 16 = some a16 := by kernel_rfl
def a42 : AFunc := ⟨3, [(.tmp 6)],
   (.seq
    (.region [⟨(some 6), (.mov (.const (.c (.val (.int .i64 0))))), none⟩])
    (.seq
     (.region [⟨(some 8), (.mov (.tmp 2)), none⟩, ⟨(some 9), (.bin .sub (.const (.c (.val (.int .i64 4096)))) (.tmp 8)), none⟩, ⟨(some 7), (.mov (.tmp 9)), none⟩])
     (.seq
      (.region [⟨(some 10), (.mov (.tmp 7)), none⟩,
       ⟨(some 11), (.bin .mul (.const (.c (.val (.int .i64 3)))) (.tmp 10)), none⟩,
       ⟨(some 12), (.mov (.tmp 7)), none⟩,
       ⟨(some 13), (.bin .mul (.tmp 11) (.tmp 12)), none⟩,
       ⟨(some 14), (.mov (.tmp 2)), none⟩,
       ⟨(some 15), (.bin .mul (.tmp 13) (.tmp 14)), none⟩,
       ⟨(some 16), (.mov (.tmp 0)), none⟩,
       ⟨(some 17), (.bin .mul (.tmp 15) (.tmp 16)), none⟩,
       ⟨(some 18), (.mov (.tmp 7)), none⟩,
       ⟨(some 19), (.bin .mul (.const (.c (.val (.int .i64 3)))) (.tmp 18)), none⟩,
       ⟨(some 20), (.mov (.tmp 2)), none⟩,
       ⟨(some 21), (.bin .mul (.tmp 19) (.tmp 20)), none⟩,
       ⟨(some 22), (.mov (.tmp 2)), none⟩,
       ⟨(some 23), (.bin .mul (.tmp 21) (.tmp 22)), none⟩,
       ⟨(some 24), (.mov (.tmp 1)), none⟩,
       ⟨(some 25), (.bin .mul (.tmp 23) (.tmp 24)), none⟩,
       ⟨(some 26), (.bin .add (.tmp 17) (.tmp 25)), none⟩,
       ⟨(some 27), (.mov (.tmp 2)), none⟩,
       ⟨(some 28), (.mov (.tmp 2)), none⟩,
       ⟨(some 29), (.bin .mul (.tmp 27) (.tmp 28)), none⟩,
       ⟨(some 30), (.mov (.tmp 2)), none⟩,
       ⟨(some 31), (.bin .mul (.tmp 29) (.tmp 30)), none⟩,
       ⟨(some 32), (.bin .mul (.tmp 31) (.const (.c (.val (.int .i64 1000))))), none⟩,
       ⟨(some 33), (.bin .add (.tmp 26) (.tmp 32)), none⟩,
       ⟨(some 34), (.bin .quo (.tmp 33) (.const (.c (.val (.int .i64 68719476736))))), none⟩,
       ⟨(some 6), (.mov (.tmp 34)), none⟩]) .ret)))⟩
set_option maxRecDepth 100000 in
theorem c42 : compFunc Try.prog 42 = some a42 := by kernel_rfl
def a17 : AFunc := ⟨2, [(.tmp 4)],
   (.seq
    (.region [⟨(some 2), (.box (.tmp 0)), none⟩, ⟨(some 4), (.mov (.const (.c (.val (.int .i64 0))))), none⟩])
    (.seq
     (.seq
      (.region [⟨(some 6), (.faddr 0 (.tmp 2)), none⟩, ⟨(some 7), (.load false 1 (.tmp 6)), none⟩, ⟨(some 8), (.bin .eql (.tmp 7) (.const (.c (.val (.int .i64 1))))), none⟩])
      (.cond (.tmp 8)
       (.seq
        (.region [⟨(some 9), (.mov (.tmp 1)), none⟩, ⟨(some 4), (.mov (.tmp 9)), none⟩]) .ret) .skip))
     (.seq
      (.seq
       (.region [⟨(some 10), (.faddr 0 (.tmp 2)), none⟩, ⟨(some 11), (.load false 1 (.tmp 10)), none⟩, ⟨(some 12), (.bin .eql (.tmp 11) (.const (.c (.val (.int .i64 3))))), none⟩])
       (.cond (.tmp 12)
        (.seq
         (.region [⟨(some 13), (.mov (.tmp 1)), none⟩,
          ⟨(some 14), (.faddr 5 (.tmp 2)), none⟩,
          ⟨(some 15), (.load false 1 (.tmp 14)), none⟩,
          ⟨(some 16), (.bin .mul (.tmp 13) (.tmp 15)), none⟩,
          ⟨(some 17), (.bin .quo (.tmp 16) (.const (.c (.val (.int .i64 1000))))), none⟩,
          ⟨(some 18), (.bin .mul (.tmp 17) (.const (.c (.val (.int .i64 1000))))), none⟩,
          ⟨(some 19), (.faddr 5 (.tmp 2)), none⟩,
          ⟨(some 20), (.load false 1 (.tmp 19)), none⟩,
          ⟨(some 21), (.bin .quo (.tmp 18) (.tmp 20)), none⟩,
          ⟨(some 4), (.mov (.tmp 21)), none⟩]) .ret) .skip))
      (.seq
       (.region [⟨(some 5), (.mov (.const (.c (.val (.int .i64 0))))), none⟩])
       (.seq
        (.block 0
         (.loop
          (.seq
           (.seq
            (.region [⟨(some 22), (.faddr 1 (.tmp 2)), none⟩,
             ⟨(some 23), (.iaddrA 4 1 (.tmp 22) (.const (.c (.val (.int .i64 0))))), none⟩,
             ⟨(some 24), (.load false 1 (.tmp 23)), none⟩,
             ⟨(some 25), (.faddr 1 (.tmp 2)), none⟩,
             ⟨(some 26), (.iaddrA 4 1 (.tmp 25) (.const (.c (.val (.int .i64 2))))), none⟩,
             ⟨(some 27), (.load false 1 (.tmp 26)), none⟩,
             ⟨(some 28), (.mov (.tmp 5)), none⟩,
             ⟨(some 29), (.call 42 [(.tmp 24), (.tmp 27), (.tmp 28)]), none⟩,
             ⟨(some 30), (.mov (.tmp 1)), none⟩,
             ⟨(some 31), (.bin .lss (.tmp 29) (.tmp 30)), none⟩])
            (.cond (.tmp 31) .skip (.exit 0)))
           (.block 1
            (.region [⟨(some 32), (.mov (.tmp 5)), none⟩, ⟨(some 33), (.bin .add (.tmp 32) (.const (.c (.val (.int .i64 1))))), none⟩, ⟨(some 5), (.mov (.tmp 33)), none⟩])))))
        (.seq
         (.region [⟨(some 34), (.faddr 1 (.tmp 2)), none⟩,
          ⟨(some 35), (.iaddrA 4 1 (.tmp 34) (.const (.c (.val (.int .i64 1))))), none⟩,
          ⟨(some 36), (.load false 1 (.tmp 35)), none⟩,
          ⟨(some 37), (.faddr 1 (.tmp 2)), none⟩,
          ⟨(some 38), (.iaddrA 4 1 (.tmp 37) (.const (.c (.val (.int .i64 3))))), none⟩,
          ⟨(some 39), (.load false 1 (.tmp 38)), none⟩,
          ⟨(some 40), (.mov (.tmp 5)), none⟩,
          ⟨(some 41), (.call 42 [(.tmp 36), (.tmp 39), (.tmp 40)]), none⟩,
          ⟨(some 4), (.mov (.tmp 41)), none⟩]) .ret))))))⟩
set_option maxRecDepth 100000 in
theorem c17 : compFunc Try.prog 17 = some a17 := by kernel_rfl
def a4 : AFunc := ⟨2, [(.tmp 4)],
   (.seq
    (.region [⟨(some 2), (.box (.tmp 0)), none⟩, ⟨(some 4), (.mov (.const (.c (.val (.bool false))))), none⟩])
    (.seq
     (.region [⟨(some 8), (.call 14 []), none⟩, ⟨(some 5), (.mov (.tmp 8)), none⟩])
     (.seq
      (.region [⟨(some 10), (.load true 6 (.tmp 2)), none⟩,
       ⟨(some 11), (.mov (.tmp 1)), none⟩,
       ⟨(some 12), (.call 15 [(.tmp 10), (.tmp 11)]), none⟩,
       ⟨(some 9), (.mov (.tmp 12)), none⟩,
       ⟨(some 13), (.ext (.tmp 9) 0), none⟩,
       ⟨(some 14), (.ext (.tmp 9) 1), none⟩,
       ⟨(some 6), (.mov (.tmp 13)), none⟩,
       ⟨(some 7), (.mov (.tmp 14)), none⟩])
      (.seq
       (.seq
        (.region [⟨(some 15), (.load true 6 (.tmp 2)), none⟩, ⟨(some 16), (.call 16 [(.tmp 15)]), none⟩, ⟨(some 17), (.un .not (.tmp 16)), none⟩])
        (.cond (.tmp 17)
         (.seq
          (.region [⟨(some 18), (.mov (.tmp 5)), none⟩,
           ⟨(some 19), (.mov (.tmp 18)), none⟩,
           ⟨(some 20), (.mov (.tmp 6)), (some (19, true))⟩,
           ⟨(some 21), (.bin .eql (.tmp 20) (.const (.c (.val (.int .i64 0))))), (some (19, true))⟩,
           ⟨(some 22), (.pick (.tmp 19) (.tmp 21) (.const (.c (.val (.bool false))))), none⟩,
           ⟨(some 23), (.mov (.tmp 22)), none⟩,
           ⟨(some 24), (.mov (.tmp 7)), (some (23, true))⟩,
           ⟨(some 25), (.bin .eql (.tmp 24) (.const (.c (.val (.int .i64 3))))), (some (23, true))⟩,
           ⟨(some 26), (.pick (.tmp 23) (.tmp 25) (.const (.c (.val (.bool false))))), none⟩,
           ⟨(some 4), (.mov (.tmp 26)), none⟩]) .ret) .skip))
       (.seq
        (.seq
         (.region [⟨(some 27), (.mov (.tmp 1)), none⟩,
          ⟨(some 28), (.bin .lss (.tmp 27) (.const (.c (.val (.int .i64 0))))), none⟩,
          ⟨(some 29), (.mov (.tmp 28)), none⟩,
          ⟨(some 30), (.mov (.tmp 1)), (some (29, false))⟩,
          ⟨(some 31), (.bin .gtr (.tmp 30) (.const (.c (.val (.int .i64 1000))))), (some (29, false))⟩,
          ⟨(some 32), (.pick (.tmp 29) (.const (.c (.val (.bool true)))) (.tmp 31)), none⟩])
         (.cond (.tmp 32)
          (.seq
           (.region [⟨(some 33), (.mov (.tmp 5)), none⟩,
            ⟨(some 34), (.mov (.tmp 33)), none⟩,
            ⟨(some 35), (.mov (.tmp 6)), (some (34, true))⟩,
            ⟨(some 36), (.bin .eql (.tmp 35) (.const (.c (.val (.int .i64 0))))), (some (34, true))⟩,
            ⟨(some 37), (.pick (.tmp 34) (.tmp 36) (.const (.c (.val (.bool false))))), none⟩,
            ⟨(some 38), (.mov (.tmp 37)), none⟩,
            ⟨(some 39), (.mov (.tmp 7)), (some (38, true))⟩,
            ⟨(some 40), (.bin .eql (.tmp 39) (.const (.c (.val (.int .i64 1))))), (some (38, true))⟩,
            ⟨(some 41), (.pick (.tmp 38) (.tmp 40) (.const (.c (.val (.bool false))))), none⟩,
            ⟨(some 4), (.mov (.tmp 41)), none⟩]) .ret) .skip))
        (.seq
         (.region [⟨(some 42), (.mov (.tmp 5)), none⟩,
          ⟨(some 43), (.mov (.tmp 42)), none⟩,
          ⟨(some 44), (.mov (.tmp 7)), (some (43, true))⟩,
          ⟨(some 45), (.bin .eql (.tmp 44) (.const (.c (.val (.int .i64 0))))), (some (43, true))⟩,
          ⟨(some 46), (.pick (.tmp 43) (.tmp 45) (.const (.c (.val (.bool false))))), none⟩,
          ⟨(some 47), (.mov (.tmp 46)), none⟩,
          ⟨(some 48), (.mov (.tmp 6)), (some (47, true))⟩,
          ⟨(some 49), (.load true 6 (.tmp 2)), (some (47, true))⟩,
          ⟨(some 50), (.mov (.tmp 1)), (some (47, true))⟩,
          ⟨(some 51), (.call 17 [(.tmp 49), (.tmp 50)]), (some (47, true))⟩,
          ⟨(some 52), (.bin .eql (.tmp 48) (.tmp 51)), (some (47, true))⟩,
          ⟨(some 53), (.pick (.tmp 47) (.tmp 52) (.const (.c (.val (.bool false))))), none⟩,
          ⟨(some 4), (.mov (.tmp 53)), none⟩]) .ret))))))⟩
set_option maxRecDepth 100000 in
theorem c4 : compFunc Try.prog 4 = some a4 := by kernel_rfl
end Go.Proofs.YtgfcmhomndofaaaAv
