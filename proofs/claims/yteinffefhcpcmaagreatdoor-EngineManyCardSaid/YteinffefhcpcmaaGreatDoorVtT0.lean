/- The functions' code as the abstract machine reads it: written by a program of this session. -/
import Derived.Test.YteinffefhcpcmaaGreatDoorAmA
set_option linter.unusedVariables false
set_option linter.unusedSimpArgs false
set_option linter.unusedSectionVars false
namespace Go.Am.Tab
open Go.Am
/- varve/varvelaw24.EngineMany -/
def a3 : AFunc := ⟨.seq (.region [
   ⟨some 2, .p (.mv), [.c (.bool false)], none⟩])
 (.seq (.region [
    ⟨some 18, .i (.call 7), [.c (.int .i64 (.ofNat 1)), .c (.list .full 1 [])], none⟩,
    ⟨some 19, .i (.call 6), [.t 18, .c (.int .i64 (.ofNat 0))], none⟩,
    ⟨some 17, .p (.mv), [.t 19], none⟩,
    ⟨some 20, .p (.ext 0), [.t 17], none⟩,
    ⟨some 21, .p (.ext 1), [.t 17], none⟩,
    ⟨some 3, .p (.mv), [.t 20], none⟩,
    ⟨some 4, .p (.mv), [.t 21], none⟩])
  (.seq (.seq (.region [
      ⟨some 22, .p (.mv), [.t 4], none⟩,
      ⟨some 23, .p (.un .not), [.t 22], none⟩])
    (.cond (.t 23)
     (.seq (.region [
        ⟨some 2, .p (.mv), [.c (.bool false)], none⟩])
      (.ret))
     (.skip)))
   (.seq (.region [
      ⟨some 24, .p (.build [(1, .int .i64 (.ofNat 0)), (1, .str []), (1, .str []), (1, .list .full 1 []), (1, .list .full 5 []), (1, .int .i64 (.ofNat 0)), (1, .int .i64 (.ofNat 0)), (1, .int .i64 (.ofNat 0)), (1, .int .i64 (.ofNat 0)), (1, .int .u64 (.ofNat 0)), (1, .int .u64 (.ofNat 0))] [(6, 1), (7, 1), (8, 1)]), [.c (.int .i64 (.ofNat 1)), .c (.int .i64 (.ofNat 1)), .c (.int .i64 (.ofNat 1))], none⟩,
      ⟨some 5, .i (.alloc [(1, .int .i64 (.ofNat 0)), (1, .str []), (1, .str []), (1, .list .full 1 []), (1, .list .full 5 []), (1, .int .i64 (.ofNat 0)), (1, .int .i64 (.ofNat 0)), (1, .int .i64 (.ofNat 0)), (1, .int .i64 (.ofNat 0)), (1, .int .u64 (.ofNat 0)), (1, .int .u64 (.ofNat 0))]), [], none⟩,
      ⟨none, .i (.store 11), [.t 5, .t 24], none⟩])
    (.seq (.seq (.region [
        ⟨some 6, .p (.mv), [.c (.int .i64 (.ofNat 1))], none⟩])
      (.block 0 (.loop (.seq (.seq (.region [
            ⟨some 25, .p (.mv), [.t 6], none⟩,
            ⟨some 26, .p (.bin .leq), [.t 25, .c (.int .i64 (.ofNat 16))], none⟩])
          (.cond (.t 26)
           (.skip)
           (.exit 0)))
         (.seq (.block 1 (.seq (.draw (.q ⟨some 30, .p (.mv), [.t 3], none⟩ (.q ⟨some 31, .p (.nilchk), [.t 30], none⟩ (.q ⟨some 32, .p (.faddr 1), [.t 31], none⟩ (.q ⟨some 33, .l (.load none), [.t 32], none⟩ (.q ⟨some 34, .l (.load (some 11)), [.t 5], none⟩ (.e ⟨some 35, .i (.call 8), [.t 33, .t 34], none⟩ [] (.q ⟨some 29, .p (.mv), [.t 35], none⟩ (.q ⟨some 36, .p (.ext 0), [.t 29], none⟩ (.q ⟨some 37, .p (.ext 1), [.t 29], none⟩ (.q ⟨some 7, .p (.mv), [.t 36], none⟩ (.q ⟨some 8, .p (.mv), [.t 37], none⟩ (.done)))))))))))))
            (.seq (.region [
               ⟨some 38, .p (.mv), [.t 7], none⟩,
               ⟨some 39, .p (.mv), [.t 6], none⟩,
               ⟨some 40, .p (.bin .neq), [.t 38, .t 39], none⟩,
               ⟨some 41, .p (.mv), [.t 40], none⟩,
               ⟨some 42, .p (.mv), [.t 8], some (41, false)⟩,
               ⟨some 43, .p (.bin .neq), [.t 42, .c (.int .i64 (.ofNat 0))], some (41, false)⟩,
               ⟨some 44, .p (.pick), [.t 41, .c (.bool true), .t 43], none⟩])
             (.cond (.t 44)
              (.seq (.region [
                 ⟨some 2, .p (.mv), [.c (.bool false)], none⟩])
               (.ret))
              (.skip)))))
          (.region [
            ⟨some 27, .p (.mv), [.t 6], none⟩,
            ⟨some 28, .p (.bin .add), [.t 27, .c (.int .i64 (.ofNat 1))], none⟩,
            ⟨some 6, .p (.mv), [.t 28], none⟩]))))))
     (.seq (.seq (.draw (.q ⟨some 46, .p (.mv), [.t 3], none⟩ (.q ⟨some 47, .p (.nilchk), [.t 46], none⟩ (.q ⟨some 48, .p (.faddr 1), [.t 47], none⟩ (.q ⟨some 49, .l (.load none), [.t 48], none⟩ (.q ⟨some 50, .l (.load (some 11)), [.t 5], none⟩ (.e ⟨some 51, .i (.call 8), [.t 49, .t 50], none⟩ [] (.q ⟨some 45, .p (.mv), [.t 51], none⟩ (.q ⟨some 52, .p (.ext 0), [.t 45], none⟩ (.q ⟨some 53, .p (.ext 1), [.t 45], none⟩ (.q ⟨some 9, .p (.mv), [.t 52], none⟩ (.q ⟨some 10, .p (.mv), [.t 53], none⟩ (.done)))))))))))))
       (.seq (.region [
          ⟨some 54, .p (.mv), [.t 9], none⟩,
          ⟨some 55, .p (.bin .neq), [.t 54, .c (.int .i64 (.ofNat 0))], none⟩,
          ⟨some 56, .p (.mv), [.t 55], none⟩,
          ⟨some 57, .p (.mv), [.t 10], some (56, false)⟩,
          ⟨some 58, .p (.bin .neq), [.t 57, .c (.int .i64 (.ofNat 10))], some (56, false)⟩,
          ⟨some 59, .p (.pick), [.t 56, .c (.bool true), .t 58], none⟩])
        (.cond (.t 59)
         (.seq (.region [
            ⟨some 2, .p (.mv), [.c (.bool false)], none⟩])
          (.ret))
         (.skip))))
      (.seq (.seq (.region [
          ⟨some 11, .p (.mv), [.c (.int .i64 (.ofNat 0))], none⟩])
        (.block 2 (.loop (.seq (.seq (.region [
              ⟨some 60, .p (.mv), [.t 11], none⟩,
              ⟨some 61, .p (.mv), [.t 0], none⟩,
              ⟨some 62, .p (.lenL), [.t 61], none⟩,
              ⟨some 63, .p (.bin .lss), [.t 60, .t 62], none⟩,
              ⟨some 64, .p (.mv), [.t 63], none⟩,
              ⟨some 65, .p (.mv), [.t 11], some (64, true)⟩,
              ⟨some 66, .p (.bin .lss), [.t 65, .c (.int .i64 (.ofNat 20))], some (64, true)⟩,
              ⟨some 67, .p (.pick), [.t 64, .t 66, .c (.bool false)], none⟩])
            (.cond (.t 67)
             (.skip)
             (.exit 2)))
           (.seq (.block 3 (.seq (.region [
                ⟨some 70, .p (.mv), [.t 0], none⟩,
                ⟨some 71, .p (.mv), [.t 11], none⟩,
                ⟨some 72, .p (.iaddr 1), [.t 70, .t 71], none⟩,
                ⟨some 73, .l (.load none), [.t 72], none⟩,
                ⟨some 74, .i (.call 9), [.t 73, .c (.int .i64 (.ofNat 16))], none⟩,
                ⟨some 75, .p (.bin .add), [.c (.int .i64 (.ofNat 1)), .t 74], none⟩,
                ⟨some 12, .p (.mv), [.t 75], none⟩])
              (.seq (.seq (.region [
                  ⟨some 76, .p (.mv), [.t 3], none⟩,
                  ⟨some 77, .p (.nilchk), [.t 76], none⟩,
                  ⟨some 78, .p (.faddr 1), [.t 77], none⟩,
                  ⟨some 79, .l (.load none), [.t 78], none⟩,
                  ⟨some 80, .p (.mv), [.t 12], none⟩,
                  ⟨some 81, .i (.call 10), [.t 79, .t 80], none⟩,
                  ⟨some 82, .p (.bin .neq), [.t 81, .c (.int .i64 (.ofNat 0))], none⟩,
                  ⟨some 83, .p (.mv), [.t 82], none⟩,
                  ⟨some 84, .p (.mv), [.t 3], some (83, false)⟩,
                  ⟨some 85, .p (.nilchk), [.t 84], some (83, false)⟩,
                  ⟨some 86, .p (.faddr 1), [.t 85], some (83, false)⟩,
                  ⟨some 87, .l (.load none), [.t 86], some (83, false)⟩,
                  ⟨some 88, .p (.mv), [.t 12], some (83, false)⟩,
                  ⟨some 89, .i (.call 10), [.t 87, .t 88], some (83, false)⟩,
                  ⟨some 90, .p (.bin .neq), [.t 89, .c (.int .i64 (.ofNat 3))], some (83, false)⟩,
                  ⟨some 91, .p (.pick), [.t 83, .c (.bool true), .t 90], none⟩])
                (.cond (.t 91)
                 (.seq (.region [
                    ⟨some 2, .p (.mv), [.c (.bool false)], none⟩])
                  (.ret))
                 (.skip)))
               (.seq (.seq (.region [
                   ⟨some 93, .p (.mv), [.t 3], none⟩,
                   ⟨some 94, .p (.nilchk), [.t 93], none⟩,
                   ⟨some 95, .p (.faddr 1), [.t 94], none⟩,
                   ⟨some 96, .l (.load none), [.t 95], none⟩,
                   ⟨some 97, .p (.mv), [.t 12], none⟩,
                   ⟨some 98, .i (.call 11), [.t 96, .t 97], none⟩,
                   ⟨some 92, .p (.mv), [.t 98], none⟩,
                   ⟨some 99, .p (.ext 0), [.t 92], none⟩,
                   ⟨some 100, .p (.ext 1), [.t 92], none⟩,
                   ⟨some 13, .i (.alloc [(1, .int .i64 (.ofNat 0)), (1, .bool false), (1, .int .u64 (.ofNat 0)), (1, .int .i64 (.ofNat 0))]), [], none⟩,
                   ⟨none, .i (.store 4), [.t 13, .t 99], none⟩,
                   ⟨some 14, .p (.mv), [.t 100], none⟩])
                 (.seq (.region [
                    ⟨some 101, .p (.mv), [.t 14], none⟩,
                    ⟨some 102, .p (.bin .neq), [.t 101, .c (.int .i64 (.ofNat 3))], none⟩])
                  (.cond (.t 102)
                   (.seq (.region [
                      ⟨some 2, .p (.mv), [.c (.bool false)], none⟩])
                    (.ret))
                   (.skip))))
                (.seq (.draw (.q ⟨some 104, .p (.mv), [.t 3], none⟩ (.q ⟨some 105, .p (.nilchk), [.t 104], none⟩ (.q ⟨some 106, .p (.faddr 1), [.t 105], none⟩ (.q ⟨some 107, .l (.load none), [.t 106], none⟩ (.q ⟨some 108, .l (.load (some 11)), [.t 5], none⟩ (.e ⟨some 109, .i (.call 8), [.t 107, .t 108], none⟩ [] (.q ⟨some 103, .p (.mv), [.t 109], none⟩ (.q ⟨some 110, .p (.ext 0), [.t 103], none⟩ (.q ⟨some 111, .p (.ext 1), [.t 103], none⟩ (.q ⟨some 15, .p (.mv), [.t 110], none⟩ (.q ⟨some 16, .p (.mv), [.t 111], none⟩ (.done)))))))))))))
                 (.seq (.region [
                    ⟨some 112, .p (.mv), [.t 15], none⟩,
                    ⟨some 113, .p (.mv), [.t 12], none⟩,
                    ⟨some 114, .p (.bin .neq), [.t 112, .t 113], none⟩,
                    ⟨some 115, .p (.mv), [.t 114], none⟩,
                    ⟨some 116, .p (.mv), [.t 16], some (115, false)⟩,
                    ⟨some 117, .p (.bin .neq), [.t 116, .c (.int .i64 (.ofNat 0))], some (115, false)⟩,
                    ⟨some 118, .p (.pick), [.t 115, .c (.bool true), .t 117], none⟩])
                  (.cond (.t 118)
                   (.seq (.region [
                      ⟨some 2, .p (.mv), [.c (.bool false)], none⟩])
                    (.ret))
                   (.skip))))))))
            (.region [
              ⟨some 68, .p (.mv), [.t 11], none⟩,
              ⟨some 69, .p (.bin .add), [.t 68, .c (.int .i64 (.ofNat 1))], none⟩,
              ⟨some 11, .p (.mv), [.t 69], none⟩]))))))
       (.seq (.region [
          ⟨some 119, .i (.call 12), [], none⟩,
          ⟨some 2, .p (.mv), [.t 119], none⟩])
        (.ret)))))))), 120, [.t 2]⟩

/- varve/varvelaw24.EngineTicks -/
def a4 : AFunc := ⟨.seq (.region [
   ⟨some 2, .p (.mv), [.c (.bool false)], none⟩])
 (.seq (.region [
    ⟨some 9, .i (.call 7), [.c (.int .i64 (.ofNat 1)), .c (.list .full 1 [])], none⟩,
    ⟨some 10, .i (.call 6), [.t 9, .c (.int .i64 (.ofNat 0))], none⟩,
    ⟨some 8, .p (.mv), [.t 10], none⟩,
    ⟨some 11, .p (.ext 0), [.t 8], none⟩,
    ⟨some 12, .p (.ext 1), [.t 8], none⟩,
    ⟨some 3, .p (.mv), [.t 11], none⟩,
    ⟨some 4, .p (.mv), [.t 12], none⟩])
  (.seq (.seq (.region [
      ⟨some 13, .p (.mv), [.t 4], none⟩,
      ⟨some 14, .p (.un .not), [.t 13], none⟩])
    (.cond (.t 14)
     (.seq (.region [
        ⟨some 2, .p (.mv), [.c (.bool false)], none⟩])
      (.ret))
     (.skip)))
   (.seq (.region [
      ⟨some 5, .p (.mv), [.c (.int .i64 (.ofNat 0))], none⟩])
    (.seq (.seq (.region [
        ⟨some 6, .p (.mv), [.c (.int .i64 (.ofNat 0))], none⟩])
      (.block 0 (.loop (.seq (.seq (.region [
            ⟨some 15, .p (.mv), [.t 6], none⟩,
            ⟨some 16, .p (.mv), [.t 0], none⟩,
            ⟨some 17, .p (.lenL), [.t 16], none⟩,
            ⟨some 18, .p (.bin .lss), [.t 15, .t 17], none⟩,
            ⟨some 19, .p (.mv), [.t 18], none⟩,
            ⟨some 20, .p (.mv), [.t 6], some (19, true)⟩,
            ⟨some 21, .p (.bin .lss), [.t 20, .c (.int .i64 (.ofNat 60))], some (19, true)⟩,
            ⟨some 22, .p (.pick), [.t 19, .t 21, .c (.bool false)], none⟩])
          (.cond (.t 22)
           (.skip)
           (.exit 0)))
         (.seq (.block 1 (.seq (.draw (.q ⟨some 25, .p (.mv), [.t 3], none⟩ (.q ⟨some 26, .p (.nilchk), [.t 25], none⟩ (.q ⟨some 27, .p (.faddr 1), [.t 26], none⟩ (.q ⟨some 28, .l (.load none), [.t 27], none⟩ (.q ⟨some 29, .p (.mv), [.t 0], none⟩ (.q ⟨some 30, .p (.mv), [.t 6], none⟩ (.q ⟨some 31, .p (.iaddr 1), [.t 29, .t 30], none⟩ (.q ⟨some 32, .l (.load none), [.t 31], none⟩ (.e ⟨some 33, .i (.call 13), [.t 28, .t 32], none⟩ [] (.q ⟨some 7, .p (.mv), [.t 33], none⟩ (.done))))))))))))
            (.seq (.seq (.region [
                ⟨some 34, .p (.mv), [.t 0], none⟩,
                ⟨some 35, .p (.mv), [.t 6], none⟩,
                ⟨some 36, .p (.iaddr 1), [.t 34, .t 35], none⟩,
                ⟨some 37, .l (.load none), [.t 36], none⟩,
                ⟨some 38, .p (.bin .lss), [.t 37, .c (.int .i64 (.ofNat 0))], none⟩])
              (.cond (.t 38)
               (.seq (.seq (.region [
                   ⟨some 39, .p (.mv), [.t 7], none⟩,
                   ⟨some 40, .p (.bin .neq), [.t 39, .c (.int .i64 (.ofNat 1))], none⟩,
                   ⟨some 41, .p (.mv), [.t 40], none⟩,
                   ⟨some 42, .p (.mv), [.t 3], some (41, false)⟩,
                   ⟨some 43, .p (.nilchk), [.t 42], some (41, false)⟩,
                   ⟨some 44, .p (.faddr 1), [.t 43], some (41, false)⟩,
                   ⟨some 45, .l (.load none), [.t 44], some (41, false)⟩,
                   ⟨some 46, .i (.call 14), [.t 45], some (41, false)⟩,
                   ⟨some 47, .p (.mv), [.t 5], some (41, false)⟩,
                   ⟨some 48, .p (.bin .neq), [.t 46, .t 47], some (41, false)⟩,
                   ⟨some 49, .p (.pick), [.t 41, .c (.bool true), .t 48], none⟩])
                 (.cond (.t 49)
                  (.seq (.region [
                     ⟨some 2, .p (.mv), [.c (.bool false)], none⟩])
                   (.ret))
                  (.skip)))
                (.exit 1))
               (.skip)))
             (.seq (.region [
                ⟨some 50, .p (.mv), [.t 5], none⟩,
                ⟨some 51, .p (.mv), [.t 0], none⟩,
                ⟨some 52, .p (.mv), [.t 6], none⟩,
                ⟨some 53, .p (.iaddr 1), [.t 51, .t 52], none⟩,
                ⟨some 54, .l (.load none), [.t 53], none⟩,
                ⟨some 55, .p (.mv), [.t 5], none⟩,
                ⟨some 56, .p (.bin .sub), [.c (.int .i64 (.ofNat 1099511627775)), .t 55], none⟩,
                ⟨some 57, .p (.mn), [.t 54, .t 56], none⟩,
                ⟨some 58, .p (.bin .add), [.t 50, .t 57], none⟩,
                ⟨some 5, .p (.mv), [.t 58], none⟩])
              (.seq (.region [
                 ⟨some 59, .p (.mv), [.t 7], none⟩,
                 ⟨some 60, .p (.bin .neq), [.t 59, .c (.int .i64 (.ofNat 0))], none⟩,
                 ⟨some 61, .p (.mv), [.t 60], none⟩,
                 ⟨some 62, .p (.mv), [.t 3], some (61, false)⟩,
                 ⟨some 63, .p (.nilchk), [.t 62], some (61, false)⟩,
                 ⟨some 64, .p (.faddr 1), [.t 63], some (61, false)⟩,
                 ⟨some 65, .l (.load none), [.t 64], some (61, false)⟩,
                 ⟨some 66, .i (.call 14), [.t 65], some (61, false)⟩,
                 ⟨some 67, .p (.mv), [.t 5], some (61, false)⟩,
                 ⟨some 68, .p (.bin .neq), [.t 66, .t 67], some (61, false)⟩,
                 ⟨some 69, .p (.pick), [.t 61, .c (.bool true), .t 68], none⟩])
               (.cond (.t 69)
                (.seq (.region [
                   ⟨some 2, .p (.mv), [.c (.bool false)], none⟩])
                 (.ret))
                (.skip)))))))
          (.region [
            ⟨some 23, .p (.mv), [.t 6], none⟩,
            ⟨some 24, .p (.bin .add), [.t 23, .c (.int .i64 (.ofNat 1))], none⟩,
            ⟨some 6, .p (.mv), [.t 24], none⟩]))))))
     (.seq (.region [
        ⟨some 70, .i (.call 12), [], none⟩,
        ⟨some 2, .p (.mv), [.t 70], none⟩])
      (.ret)))))), 71, [.t 2]⟩

/- varve/varvelaw24.open -/
def a6 : AFunc := ⟨.seq (.region [
   ⟨some 2, .i (.box 5), [.t 0], none⟩,
   ⟨some 4, .p (.mv), [.c (.nilp)], none⟩,
   ⟨some 5, .p (.mv), [.c (.bool false)], none⟩])
 (.seq (.region [
    ⟨some 9, .i (.call 22), [], none⟩,
    ⟨some 6, .p (.mv), [.t 9], none⟩])
  (.seq (.region [
     ⟨some 11, .p (.mv), [.t 6], none⟩,
     ⟨some 12, .l (.load (some 5)), [.t 2], none⟩,
     ⟨some 13, .p (.mv), [.t 1], none⟩,
     ⟨some 14, .i (.call 23), [.t 11, .t 12, .t 13], none⟩,
     ⟨some 10, .p (.mv), [.t 14], none⟩,
     ⟨some 15, .p (.ext 0), [.t 10], none⟩,
     ⟨some 16, .p (.ext 1), [.t 10], none⟩,
     ⟨some 7, .p (.mv), [.t 15], none⟩,
     ⟨some 8, .p (.mv), [.t 16], none⟩])
   (.seq (.seq (.region [
       ⟨some 17, .p (.mv), [.t 8], none⟩,
       ⟨some 18, .p (.bin .neq), [.t 17, .c (.int .i64 (.ofNat 0))], none⟩,
       ⟨some 19, .p (.mv), [.t 18], none⟩,
       ⟨some 20, .p (.mv), [.t 7], some (19, false)⟩,
       ⟨some 21, .p (.isnil .ptr false), [.t 20], some (19, false)⟩,
       ⟨some 22, .p (.pick), [.t 19, .c (.bool true), .t 21], none⟩])
     (.cond (.t 22)
      (.seq (.region [
         ⟨some 4, .p (.mv), [.c (.nilp)], none⟩,
         ⟨some 5, .p (.mv), [.c (.bool false)], none⟩])
       (.ret))
      (.skip)))
    (.seq (.draw (.q ⟨some 23, .p (.mv), [.t 6], none⟩ (.q ⟨some 24, .p (.mv), [.t 7], none⟩ (.q ⟨some 25, .l (.load (some 5)), [.t 2], none⟩ (.q ⟨some 26, .p (.mv), [.t 1], none⟩ (.q ⟨some 27, .p (.build [(1, .int .i64 (.ofNat 0)), (1, .int .i64 (.ofNat 0)), (1, .int .i64 (.ofNat 0)), (1, .int .i64 (.ofNat 0)), (1, .int .i64 (.ofNat 0)), (1, .int .i64 (.ofNat 0)), (1, .list .full 8 []), (1, .list .full 14 []), (1, .bool false), (1, .bool false)] [(0, 5), (5, 1)]), [.t 25, .t 26], none⟩ (.q ⟨some 31, .p (.mv), [.t 7], none⟩ (.q ⟨some 33, .p (.mv), [.t 1], none⟩ (.both (.e ⟨some 28, .i (.box 10), [.t 27], none⟩ [] (.q ⟨some 29, .p (.build [(1, .nilp), (1, .nilp), (1, .nilp)] [(0, 1), (1, 1), (2, 1)]), [.t 23, .t 24, .t 28], none⟩ (.both (.e ⟨some 30, .i (.box 3), [.t 29], none⟩ [] (.e ⟨some 32, .i (.call 14), [.t 31], none⟩ [⟨some 25, .l (.load (some 5)), [.t 2], none⟩] (.q ⟨some 34, .p (.bin .eql), [.t 32, .t 33], none⟩ (.q ⟨some 4, .p (.mv), [.t 30], none⟩ (.q ⟨some 5, .p (.mv), [.t 34], none⟩ (.done)))))) (.e ⟨some 32, .i (.call 14), [.t 31], none⟩ [⟨some 25, .l (.load (some 5)), [.t 2], none⟩] (.q ⟨some 34, .p (.bin .eql), [.t 32, .t 33], none⟩ (.e ⟨some 30, .i (.box 3), [.t 29], none⟩ [] (.q ⟨some 4, .p (.mv), [.t 30], none⟩ (.q ⟨some 5, .p (.mv), [.t 34], none⟩ (.done))))))))) (.e ⟨some 32, .i (.call 14), [.t 31], none⟩ [⟨some 25, .l (.load (some 5)), [.t 2], none⟩] (.q ⟨some 34, .p (.bin .eql), [.t 32, .t 33], none⟩ (.e ⟨some 28, .i (.box 10), [.t 27], none⟩ [] (.q ⟨some 29, .p (.build [(1, .nilp), (1, .nilp), (1, .nilp)] [(0, 1), (1, 1), (2, 1)]), [.t 23, .t 24, .t 28], none⟩ (.e ⟨some 30, .i (.box 3), [.t 29], none⟩ [] (.q ⟨some 4, .p (.mv), [.t 30], none⟩ (.q ⟨some 5, .p (.mv), [.t 34], none⟩ (.done)))))))))))))))))
     (.ret))))), 35, [.t 4, .t 5]⟩

/- varve/varvelaw00.Conf -/
def a7 : AFunc := ⟨.seq (.region [
   ⟨some 4, .i (.alloc [(1, .int .i64 (.ofNat 0)), (1, .int .i64 (.ofNat 0)), (1, .int .i64 (.ofNat 0)), (1, .int .i64 (.ofNat 0)), (1, .int .i64 (.ofNat 0))]), [], none⟩])
 (.seq (.region [
    ⟨some 9, .p (.mv), [.t 0], none⟩,
    ⟨some 10, .i (.call 9), [.t 9, .c (.int .i64 (.ofNat 25920))], none⟩,
    ⟨some 11, .p (.build [(1, .int .i64 (.ofNat 0)), (1, .int .i64 (.ofNat 0)), (1, .int .i64 (.ofNat 0)), (1, .int .i64 (.ofNat 0))] [(0, 1), (1, 1), (2, 1), (3, 1)]), [.c (.int .i64 (.ofNat 1)), .c (.int .i64 (.ofNat 1)), .c (.int .i64 (.ofNat 1)), .c (.int .i64 (.ofNat 1))], none⟩,
    ⟨some 12, .p (.build [(1, .int .i64 (.ofNat 0)), (1, .int .i64 (.ofNat 0)), (1, .int .i64 (.ofNat 0)), (1, .int .i64 (.ofNat 0)), (1, .int .i64 (.ofNat 0))] [(0, 1), (1, 4)]), [.t 10, .t 11], none⟩,
    ⟨some 5, .i (.alloc [(1, .int .i64 (.ofNat 0)), (1, .int .i64 (.ofNat 0)), (1, .int .i64 (.ofNat 0)), (1, .int .i64 (.ofNat 0)), (1, .int .i64 (.ofNat 0))]), [], none⟩,
    ⟨none, .i (.store 5), [.t 5, .t 12], none⟩])
  (.seq (.region [
     ⟨some 6, .p (.mv), [.c (.int .i64 (.ofNat 1))], none⟩])
   (.seq (.seq (.region [
       ⟨some 7, .p (.mv), [.c (.int .i64 (.ofNat 0))], none⟩])
     (.block 0 (.loop (.seq (.seq (.region [
           ⟨some 13, .p (.mv), [.t 7], none⟩,
           ⟨some 14, .p (.bin .lss), [.t 13, .c (.int .i64 (.ofNat 4))], none⟩,
           ⟨some 15, .p (.mv), [.t 14], none⟩,
           ⟨some 16, .p (.mv), [.t 7], some (15, true)⟩,
           ⟨some 17, .p (.mv), [.t 1], some (15, true)⟩,
           ⟨some 18, .p (.lenL), [.t 17], some (15, true)⟩,
           ⟨some 19, .p (.bin .lss), [.t 16, .t 18], some (15, true)⟩,
           ⟨some 20, .p (.pick), [.t 15, .t 19, .c (.bool false)], none⟩])
         (.cond (.t 20)
          (.skip)
          (.exit 0)))
        (.seq (.block 1 (.seq (.region [
             ⟨some 23, .p (.mv), [.t 6], none⟩,
             ⟨some 24, .p (.mv), [.t 1], none⟩,
             ⟨some 25, .p (.mv), [.t 7], none⟩,
             ⟨some 26, .p (.iaddr 1), [.t 24, .t 25], none⟩,
             ⟨some 27, .l (.load none), [.t 26], none⟩,
             ⟨some 28, .i (.call 9), [.t 27, .c (.int .i64 (.ofNat 4))], none⟩,
             ⟨some 29, .p (.bin .add), [.t 23, .t 28], none⟩,
             ⟨some 6, .p (.mv), [.t 29], none⟩])
           (.region [
             ⟨some 30, .p (.mv), [.t 7], none⟩,
             ⟨some 31, .p (.mv), [.t 6], none⟩,
             ⟨some 32, .p (.faddr 1), [.t 5], none⟩,
             ⟨some 33, .p (.iaddrA 4 1), [.t 32, .t 30], none⟩,
             ⟨none, .i (.store 1), [.t 33, .t 31], none⟩])))
         (.region [
           ⟨some 21, .p (.mv), [.t 7], none⟩,
           ⟨some 22, .p (.bin .add), [.t 21, .c (.int .i64 (.ofNat 1))], none⟩,
           ⟨some 7, .p (.mv), [.t 22], none⟩]))))))
    (.seq (.seq (.region [
        ⟨some 34, .p (.mv), [.t 1], none⟩,
        ⟨some 35, .p (.lenL), [.t 34], none⟩,
        ⟨some 8, .p (.mv), [.t 35], none⟩])
      (.block 2 (.loop (.seq (.seq (.region [
            ⟨some 36, .p (.mv), [.t 8], none⟩,
            ⟨some 37, .p (.bin .lss), [.t 36, .c (.int .i64 (.ofNat 4))], none⟩])
          (.cond (.t 37)
           (.skip)
           (.exit 2)))
         (.seq (.block 3 (.region [
             ⟨some 40, .p (.mv), [.t 8], none⟩,
             ⟨some 41, .p (.mv), [.t 6], none⟩,
             ⟨some 42, .p (.faddr 1), [.t 5], none⟩,
             ⟨some 43, .p (.iaddrA 4 1), [.t 42, .t 40], none⟩,
             ⟨none, .i (.store 1), [.t 43, .t 41], none⟩]))
          (.region [
            ⟨some 38, .p (.mv), [.t 8], none⟩,
            ⟨some 39, .p (.bin .add), [.t 38, .c (.int .i64 (.ofNat 1))], none⟩,
            ⟨some 8, .p (.mv), [.t 39], none⟩]))))))
     (.seq (.region [
        ⟨some 44, .l (.load (some 5)), [.t 5], none⟩,
        ⟨none, .i (.store 5), [.t 4, .t 44], none⟩])
      (.ret)))))), 45, [.cell 4 (some 5)]⟩

/- (*varve/engine.Engine).Ask -/
def a8 : AFunc := ⟨.seq (.region [
   ⟨some 3, .i (.box 11), [.t 1], none⟩,
   ⟨some 4, .p (.mv), [.c (.int .i64 (.ofNat 0))], none⟩,
   ⟨some 5, .p (.mv), [.c (.int .i64 (.ofNat 0))], none⟩])
 (.seq (.seq (.region [
     ⟨some 8, .p (.mv), [.t 0], none⟩,
     ⟨some 9, .p (.nilchk), [.t 8], none⟩,
     ⟨some 10, .p (.faddr 10), [.t 9], none⟩,
     ⟨some 11, .l (.load none), [.t 10], none⟩])
   (.cond (.t 11)
    (.seq (.region [
       ⟨some 4, .p (.mv), [.c (.int .i64 (.ofNat 0))], none⟩,
       ⟨some 5, .p (.mv), [.c (.int .i64 (.ofNat 16))], none⟩])
     (.ret))
    (.skip)))
  (.seq (.seq (.draw (.q ⟨some 12, .p (.mv), [.t 0], none⟩ (.q ⟨some 13, .p (.nilchk), [.t 12], none⟩ (.q ⟨some 14, .p (.faddr 1), [.t 13], none⟩ (.q ⟨some 15, .l (.load (some 5)), [.t 14], none⟩ (.q ⟨some 16, .p (.mv), [.t 0], none⟩ (.q ⟨some 17, .p (.nilchk), [.t 16], none⟩ (.q ⟨some 18, .p (.faddr 6), [.t 17], none⟩ (.q ⟨some 19, .l (.load none), [.t 18], none⟩ (.q ⟨some 20, .l (.load (some 11)), [.t 3], none⟩ (.e ⟨some 21, .i (.call 24), [.t 15, .t 19, .t 20], none⟩ [] (.q ⟨some 6, .p (.mv), [.t 21], none⟩ (.done)))))))))))))
    (.seq (.region [
       ⟨some 22, .p (.mv), [.t 6], none⟩,
       ⟨some 23, .p (.bin .neq), [.t 22, .c (.int .i64 (.ofNat 0))], none⟩])
     (.cond (.t 23)
      (.seq (.region [
         ⟨some 24, .p (.mv), [.t 6], none⟩,
         ⟨some 4, .p (.mv), [.c (.int .i64 (.ofNat 0))], none⟩,
         ⟨some 5, .p (.mv), [.t 24], none⟩])
       (.ret))
      (.skip))))
   (.seq (.seq (.region [
       ⟨some 25, .p (.mv), [.t 0], none⟩,
       ⟨some 26, .p (.nilchk), [.t 25], none⟩,
       ⟨some 27, .p (.faddr 8), [.t 26], none⟩,
       ⟨some 28, .l (.load none), [.t 27], none⟩,
       ⟨some 29, .l (.lenM), [.t 28], none⟩,
       ⟨some 30, .p (.bin .geq), [.t 29, .c (.int .i64 (.ofNat 16))], none⟩])
     (.cond (.t 30)
      (.seq (.region [
         ⟨some 4, .p (.mv), [.c (.int .i64 (.ofNat 0))], none⟩,
         ⟨some 5, .p (.mv), [.c (.int .i64 (.ofNat 10))], none⟩])
       (.ret))
      (.skip)))
    (.seq (.region [
       ⟨some 7, .p (.mv), [.c (.int .i64 (.ofNat 1))], none⟩])
     (.seq (.block 0 (.loop (.seq (.seq (.region [
            ⟨some 31, .p (.mv), [.t 0], none⟩,
            ⟨some 32, .p (.nilchk), [.t 31], none⟩,
            ⟨some 33, .p (.faddr 8), [.t 32], none⟩,
            ⟨some 34, .l (.load none), [.t 33], none⟩,
            ⟨some 35, .p (.mv), [.t 7], none⟩,
            ⟨some 36, .l (.lookup false [(1, .nilp)] false false), [.t 34, .t 35], none⟩,
            ⟨some 37, .p (.isnil .ptr true), [.t 36], none⟩])
          (.cond (.t 37)
           (.skip)
           (.exit 0)))
         (.block 1 (.region [
            ⟨some 38, .p (.mv), [.t 7], none⟩,
            ⟨some 39, .p (.bin .add), [.t 38, .c (.int .i64 (.ofNat 1))], none⟩,
            ⟨some 7, .p (.mv), [.t 39], none⟩])))))
      (.seq (.region [
         ⟨some 40, .p (.faddr 0), [.t 3], none⟩,
         ⟨some 41, .l (.load (some 5)), [.t 40], none⟩,
         ⟨some 42, .i (.call 25), [.t 41], none⟩,
         ⟨some 43, .p (.faddr 0), [.t 3], none⟩,
         ⟨none, .i (.store 5), [.t 43, .t 42], none⟩])
       (.seq (.draw (.q ⟨some 44, .p (.mv), [.t 0], none⟩ (.q ⟨some 45, .p (.nilchk), [.t 44], none⟩ (.q ⟨some 46, .p (.faddr 8), [.t 45], none⟩ (.q ⟨some 47, .l (.load none), [.t 46], none⟩ (.q ⟨some 48, .p (.mv), [.t 7], none⟩ (.q ⟨some 49, .l (.load (some 11)), [.t 3], none⟩ (.q ⟨some 50, .p (.faddr 0), [.t 3], none⟩ (.q ⟨some 51, .l (.load (some 5)), [.t 50], none⟩ (.q ⟨some 52, .p (.mv), [.t 0], none⟩ (.q ⟨some 53, .p (.nilchk), [.t 52], none⟩ (.q ⟨some 54, .p (.faddr 7), [.t 53], none⟩ (.q ⟨some 55, .l (.load none), [.t 54], none⟩ (.e ⟨some 56, .i (.call 27), [.t 55], none⟩ [⟨some 47, .l (.load none), [.t 46], none⟩, ⟨some 49, .l (.load (some 11)), [.t 3], none⟩, ⟨some 51, .l (.load (some 5)), [.t 50], none⟩] (.e ⟨some 57, .i (.call 26), [.t 51, .t 56], none⟩ [⟨some 47, .l (.load none), [.t 46], none⟩, ⟨some 49, .l (.load (some 11)), [.t 3], none⟩] (.q ⟨some 58, .p (.build [(1, .int .i64 (.ofNat 0)), (1, .str []), (1, .str []), (1, .list .full 1 []), (1, .list .full 5 []), (1, .int .i64 (.ofNat 0)), (1, .int .i64 (.ofNat 0)), (1, .int .i64 (.ofNat 0)), (1, .int .i64 (.ofNat 0)), (1, .int .u64 (.ofNat 0)), (1, .int .u64 (.ofNat 0)), (1, .list .full 8 []), (1, .int .i64 (.ofNat 0))] [(0, 11), (11, 1)]), [.t 49, .t 57], none⟩ (.e ⟨some 59, .i (.box 13), [.t 58], none⟩ [⟨some 47, .l (.load none), [.t 46], none⟩] (.e ⟨none, .i (.mapset false), [.t 47, .t 48, .t 59], none⟩ [] (.done)))))))))))))))))))
        (.seq (.region [
           ⟨some 60, .p (.mv), [.t 7], none⟩,
           ⟨some 4, .p (.mv), [.t 60], none⟩,
           ⟨some 5, .p (.mv), [.c (.int .i64 (.ofNat 0))], none⟩])
         (.ret))))))))), 61, [.t 4, .t 5]⟩

/- varve/varvelaw00.Place -/
def a9 : AFunc := ⟨.seq (.region [
   ⟨some 4, .p (.mv), [.c (.int .i64 (.ofNat 0))], none⟩])
 (.seq (.region [
    ⟨some 6, .p (.mv), [.t 0], none⟩,
    ⟨some 7, .p (.mv), [.t 1], none⟩,
    ⟨some 8, .p (.bin .rem), [.t 6, .t 7], none⟩,
    ⟨some 5, .p (.mv), [.t 8], none⟩])
  (.seq (.seq (.region [
      ⟨some 9, .p (.mv), [.t 5], none⟩,
      ⟨some 10, .p (.bin .lss), [.t 9, .c (.int .i64 (.ofNat 0))], none⟩])
    (.cond (.t 10)
     (.region [
       ⟨some 11, .p (.mv), [.t 5], none⟩,
       ⟨some 12, .p (.mv), [.t 1], none⟩,
       ⟨some 13, .p (.bin .add), [.t 11, .t 12], none⟩,
       ⟨some 5, .p (.mv), [.t 13], none⟩])
     (.skip)))
   (.seq (.region [
      ⟨some 14, .p (.mv), [.t 5], none⟩,
      ⟨some 4, .p (.mv), [.t 14], none⟩])
    (.ret)))), 15, [.t 4]⟩

/- (*varve/engine.Engine).End -/
def a10 : AFunc := ⟨.seq (.region [
   ⟨some 4, .p (.mv), [.c (.int .i64 (.ofNat 0))], none⟩])
 (.seq (.seq (.region [
     ⟨some 5, .p (.mv), [.t 0], none⟩,
     ⟨some 6, .p (.nilchk), [.t 5], none⟩,
     ⟨some 7, .p (.faddr 10), [.t 6], none⟩,
     ⟨some 8, .l (.load none), [.t 7], none⟩])
   (.cond (.t 8)
    (.seq (.region [
       ⟨some 4, .p (.mv), [.c (.int .i64 (.ofNat 16))], none⟩])
     (.ret))
    (.skip)))
  (.seq (.seq (.region [
      ⟨some 9, .p (.mv), [.t 0], none⟩,
      ⟨some 10, .p (.nilchk), [.t 9], none⟩,
      ⟨some 11, .p (.faddr 8), [.t 10], none⟩,
      ⟨some 12, .l (.load none), [.t 11], none⟩,
      ⟨some 13, .p (.mv), [.t 1], none⟩,
      ⟨some 14, .l (.lookup false [(1, .nilp)] false false), [.t 12, .t 13], none⟩,
      ⟨some 15, .p (.isnil .ptr false), [.t 14], none⟩])
    (.cond (.t 15)
     (.seq (.region [
        ⟨some 4, .p (.mv), [.c (.int .i64 (.ofNat 3))], none⟩])
      (.ret))
     (.skip)))
   (.seq (.region [
      ⟨some 16, .p (.mv), [.t 0], none⟩,
      ⟨some 17, .p (.nilchk), [.t 16], none⟩,
      ⟨some 18, .p (.faddr 8), [.t 17], none⟩,
      ⟨some 19, .l (.load none), [.t 18], none⟩,
      ⟨some 20, .p (.mv), [.t 1], none⟩,
      ⟨none, .i (.delete false), [.t 19, .t 20], none⟩])
    (.seq (.region [
       ⟨some 4, .p (.mv), [.c (.int .i64 (.ofNat 0))], none⟩])
     (.ret))))), 21, [.t 4]⟩

/- (*varve/engine.Engine).Next -/
def a11 : AFunc := ⟨.seq (.region [
   ⟨some 4, .i (.alloc [(1, .int .i64 (.ofNat 0)), (1, .bool false), (1, .int .u64 (.ofNat 0)), (1, .int .i64 (.ofNat 0))]), [], none⟩,
   ⟨some 5, .p (.mv), [.c (.int .i64 (.ofNat 0))], none⟩])
 (.seq (.seq (.region [
     ⟨some 8, .p (.mv), [.t 0], none⟩,
     ⟨some 9, .p (.nilchk), [.t 8], none⟩,
     ⟨some 10, .p (.faddr 10), [.t 9], none⟩,
     ⟨some 11, .l (.load none), [.t 10], none⟩])
   (.cond (.t 11)
    (.seq (.region [
       ⟨some 12, .p (.build [(1, .int .i64 (.ofNat 0)), (1, .bool false), (1, .int .u64 (.ofNat 0)), (1, .int .i64 (.ofNat 0))] []), [], none⟩,
       ⟨none, .i (.store 4), [.t 4, .t 12], none⟩,
       ⟨some 5, .p (.mv), [.c (.int .i64 (.ofNat 16))], none⟩])
     (.ret))
    (.skip)))
  (.seq (.region [
     ⟨some 13, .p (.mv), [.t 0], none⟩,
     ⟨some 14, .p (.nilchk), [.t 13], none⟩,
     ⟨some 15, .p (.faddr 8), [.t 14], none⟩,
     ⟨some 16, .l (.load none), [.t 15], none⟩,
     ⟨some 17, .p (.mv), [.t 1], none⟩,
     ⟨some 18, .l (.lookup false [(1, .nilp)] false false), [.t 16, .t 17], none⟩,
     ⟨some 6, .p (.mv), [.t 18], none⟩])
   (.seq (.seq (.draw (.q ⟨some 19, .p (.mv), [.t 6], none⟩ (.q ⟨some 20, .p (.isnil .ptr false), [.t 19], none⟩ (.q ⟨some 21, .p (.mv), [.t 20], none⟩ (.q ⟨some 22, .p (.mv), [.t 6], some (21, false)⟩ (.q ⟨some 23, .p (.nilchk), [.t 22], some (21, false)⟩ (.q ⟨some 24, .p (.faddr 12), [.t 23], some (21, false)⟩ (.q ⟨some 25, .l (.load none), [.t 24], some (21, false)⟩ (.q ⟨some 26, .p (.mv), [.t 6], some (21, false)⟩ (.q ⟨some 27, .p (.nilchk), [.t 26], some (21, false)⟩ (.q ⟨some 28, .p (.faddr 0), [.t 27], some (21, false)⟩ (.q ⟨some 29, .p (.faddr 7), [.t 28], some (21, false)⟩ (.q ⟨some 30, .l (.load none), [.t 29], some (21, false)⟩ (.q ⟨some 31, .p (.bin .geq), [.t 25, .t 30], some (21, false)⟩ (.q ⟨some 32, .p (.pick), [.t 21, .c (.bool true), .t 31], none⟩ (.done))))))))))))))))
     (.cond (.t 32)
      (.seq (.region [
         ⟨some 33, .p (.build [(1, .int .i64 (.ofNat 0)), (1, .bool false), (1, .int .u64 (.ofNat 0)), (1, .int .i64 (.ofNat 0))] []), [], none⟩,
         ⟨none, .i (.store 4), [.t 4, .t 33], none⟩,
         ⟨some 5, .p (.mv), [.c (.int .i64 (.ofNat 3))], none⟩])
       (.ret))
      (.skip)))
    (.seq (.draw (.q ⟨some 34, .p (.mv), [.t 6], none⟩ (.q ⟨some 35, .p (.nilchk), [.t 34], none⟩ (.q ⟨some 36, .p (.faddr 0), [.t 35], none⟩ (.q ⟨some 37, .p (.faddr 5), [.t 36], none⟩ (.q ⟨some 38, .l (.load none), [.t 37], none⟩ (.q ⟨some 39, .p (.mv), [.t 6], none⟩ (.q ⟨some 40, .p (.nilchk), [.t 39], none⟩ (.q ⟨some 41, .p (.faddr 12), [.t 40], none⟩ (.q ⟨some 42, .l (.load none), [.t 41], none⟩ (.q ⟨some 43, .p (.mv), [.t 6], none⟩ (.q ⟨some 44, .p (.nilchk), [.t 43], none⟩ (.q ⟨some 45, .p (.faddr 0), [.t 44], none⟩ (.q ⟨some 46, .p (.faddr 6), [.t 45], none⟩ (.q ⟨some 47, .l (.load none), [.t 46], none⟩ (.q ⟨some 48, .p (.bin .mul), [.t 42, .t 47], none⟩ (.q ⟨some 49, .p (.bin .add), [.t 38, .t 48], none⟩ (.q ⟨some 7, .p (.mv), [.t 49], none⟩ (.done)))))))))))))))))))
     (.seq (.region [
        ⟨some 50, .p (.mv), [.t 6], none⟩,
        ⟨some 51, .p (.nilchk), [.t 50], none⟩,
        ⟨some 52, .p (.faddr 12), [.t 51], none⟩,
        ⟨some 53, .l (.load none), [.t 52], none⟩,
        ⟨some 54, .p (.bin .add), [.t 53, .c (.int .i64 (.ofNat 1))], none⟩,
        ⟨some 55, .p (.nilchk), [.t 50], none⟩,
        ⟨some 56, .p (.faddr 12), [.t 55], none⟩,
        ⟨none, .i (.store 1), [.t 56, .t 54], none⟩])
      (.seq (.draw (.q ⟨some 57, .p (.mv), [.t 6], none⟩ (.q ⟨some 58, .p (.nilchk), [.t 57], none⟩ (.q ⟨some 59, .p (.faddr 0), [.t 58], none⟩ (.q ⟨some 60, .l (.load (some 11)), [.t 59], none⟩ (.q ⟨some 61, .p (.mv), [.t 6], none⟩ (.q ⟨some 62, .p (.nilchk), [.t 61], none⟩ (.q ⟨some 63, .p (.faddr 11), [.t 62], none⟩ (.q ⟨some 64, .l (.load none), [.t 63], none⟩ (.q ⟨some 65, .p (.mv), [.t 7], none⟩ (.q ⟨some 66, .p (.mv), [.t 7], none⟩ (.q ⟨some 67, .p (.mv), [.t 6], none⟩ (.q ⟨some 68, .p (.nilchk), [.t 67], none⟩ (.q ⟨some 69, .p (.faddr 0), [.t 68], none⟩ (.q ⟨some 70, .p (.faddr 6), [.t 69], none⟩ (.q ⟨some 71, .l (.load none), [.t 70], none⟩ (.q ⟨some 72, .p (.bin .add), [.t 66, .t 71], none⟩ (.e ⟨some 73, .i (.call 28), [.t 60, .t 64, .t 65, .t 72], none⟩ [] (.e ⟨none, .i (.store 4), [.t 4, .t 73], none⟩ [] (.q ⟨some 5, .p (.mv), [.c (.int .i64 (.ofNat 0))], none⟩ (.done)))))))))))))))))))))
       (.ret))))))), 74, [.cell 4 (some 4), .t 5]⟩

/- varve/varvelaw24.awake -/
def a12 : AFunc := ⟨.seq (.region [
   ⟨some 0, .p (.mv), [.c (.bool false)], none⟩])
 (.seq (.region [
    ⟨some 8, .i (.call 22), [], none⟩,
    ⟨some 9, .i (.call 7), [.c (.int .i64 (.ofNat 0)), .c (.list .full 1 [])], none⟩,
    ⟨some 10, .i (.call 23), [.t 8, .t 9, .c (.int .i64 (.ofNat 0))], none⟩,
    ⟨some 7, .p (.mv), [.t 10], none⟩,
    ⟨some 11, .p (.ext 0), [.t 7], none⟩,
    ⟨some 12, .p (.ext 1), [.t 7], none⟩,
    ⟨some 1, .p (.mv), [.t 11], none⟩,
    ⟨some 2, .p (.mv), [.t 12], none⟩])
  (.seq (.seq (.region [
      ⟨some 13, .p (.mv), [.t 2], none⟩,
      ⟨some 14, .p (.bin .neq), [.t 13, .c (.int .i64 (.ofNat 0))], none⟩,
      ⟨some 15, .p (.mv), [.t 14], none⟩,
      ⟨some 16, .p (.mv), [.t 1], some (15, false)⟩,
      ⟨some 17, .p (.isnil .ptr false), [.t 16], some (15, false)⟩,
      ⟨some 18, .p (.pick), [.t 15, .c (.bool true), .t 17], none⟩,
      ⟨some 19, .p (.mv), [.t 18], none⟩,
      ⟨some 20, .p (.mv), [.t 1], some (19, false)⟩,
      ⟨some 21, .i (.call 16), [.c (.int .i64 (.ofNat 1))], some (19, false)⟩,
      ⟨some 22, .p (.build [(1, .int .u64 (.ofNat 0)), (1, .str []), (1, .int .u64 (.ofNat 0))] [(0, 1), (1, 1)]), [.c (.int .u64 (.ofNat 7)), .c (.str [97])], some (19, false)⟩,
      ⟨some 23, .p (.bsl 3 1 true [(1, .int .u64 (.ofNat 0)), (1, .str []), (1, .int .u64 (.ofNat 0))] [(0, 3)]), [.t 22], some (19, false)⟩,
      ⟨some 24, .i (.call 15), [.t 20, .t 21, .c (.int .i64 (.ofNat 0)), .t 23], some (19, false)⟩,
      ⟨some 25, .p (.bin .neq), [.t 24, .c (.int .i64 (.ofNat 0))], some (19, false)⟩,
      ⟨some 26, .p (.pick), [.t 19, .c (.bool true), .t 25], none⟩])
    (.cond (.t 26)
     (.seq (.region [
        ⟨some 0, .p (.mv), [.c (.bool false)], none⟩])
      (.ret))
     (.skip)))
   (.seq (.region [
      ⟨some 28, .p (.mv), [.t 1], none⟩,
      ⟨some 29, .p (.build [(1, .int .i64 (.ofNat 0)), (1, .str []), (1, .str []), (1, .list .full 1 []), (1, .list .full 5 []), (1, .int .i64 (.ofNat 0)), (1, .int .i64 (.ofNat 0)), (1, .int .i64 (.ofNat 0)), (1, .int .i64 (.ofNat 0)), (1, .int .u64 (.ofNat 0)), (1, .int .u64 (.ofNat 0))] [(6, 1), (7, 1), (8, 1)]), [.c (.int .i64 (.ofNat 1)), .c (.int .i64 (.ofNat 1)), .c (.int .i64 (.ofNat 1))], none⟩,
      ⟨some 30, .i (.call 8), [.t 28, .t 29], none⟩,
      ⟨some 27, .p (.mv), [.t 30], none⟩,
      ⟨some 31, .p (.ext 0), [.t 27], none⟩,
      ⟨some 32, .p (.ext 1), [.t 27], none⟩,
      ⟨some 3, .p (.mv), [.t 31], none⟩,
      ⟨some 4, .p (.mv), [.t 32], none⟩])
    (.seq (.region [
       ⟨some 34, .p (.mv), [.t 1], none⟩,
       ⟨some 35, .p (.mv), [.t 3], none⟩,
       ⟨some 36, .i (.call 11), [.t 34, .t 35], none⟩,
       ⟨some 33, .p (.mv), [.t 36], none⟩,
       ⟨some 37, .p (.ext 0), [.t 33], none⟩,
       ⟨some 38, .p (.ext 1), [.t 33], none⟩,
       ⟨some 5, .i (.alloc [(1, .int .i64 (.ofNat 0)), (1, .bool false), (1, .int .u64 (.ofNat 0)), (1, .int .i64 (.ofNat 0))]), [], none⟩,
       ⟨none, .i (.store 4), [.t 5, .t 37], none⟩,
       ⟨some 6, .p (.mv), [.t 38], none⟩])
     (.seq (.region [
        ⟨some 39, .p (.mv), [.t 4], none⟩,
        ⟨some 40, .p (.bin .eql), [.t 39, .c (.int .i64 (.ofNat 0))], none⟩,
        ⟨some 41, .p (.mv), [.t 40], none⟩,
        ⟨some 42, .p (.mv), [.t 3], some (41, true)⟩,
        ⟨some 43, .p (.bin .eql), [.t 42, .c (.int .i64 (.ofNat 1))], some (41, true)⟩,
        ⟨some 44, .p (.pick), [.t 41, .t 43, .c (.bool false)], none⟩,
        ⟨some 45, .p (.mv), [.t 44], none⟩,
        ⟨some 46, .p (.mv), [.t 6], some (45, true)⟩,
        ⟨some 47, .p (.bin .eql), [.t 46, .c (.int .i64 (.ofNat 0))], some (45, true)⟩,
        ⟨some 48, .p (.pick), [.t 45, .t 47, .c (.bool false)], none⟩,
        ⟨some 49, .p (.mv), [.t 48], none⟩,
        ⟨some 50, .p (.faddr 1), [.t 5], some (49, true)⟩,
        ⟨some 51, .l (.load none), [.t 50], some (49, true)⟩,
        ⟨some 52, .p (.pick), [.t 49, .t 51, .c (.bool false)], none⟩,
        ⟨some 53, .p (.mv), [.t 52], none⟩,
        ⟨some 54, .p (.faddr 2), [.t 5], some (53, true)⟩,
        ⟨some 55, .l (.load none), [.t 54], some (53, true)⟩,
        ⟨some 56, .p (.bin .eql), [.t 55, .c (.int .u64 (.ofNat 1))], some (53, true)⟩,
        ⟨some 57, .p (.pick), [.t 53, .t 56, .c (.bool false)], none⟩,
        ⟨some 58, .p (.mv), [.t 57], none⟩,
        ⟨some 59, .p (.mv), [.t 1], some (58, true)⟩,
        ⟨some 60, .i (.call 19), [.t 59], some (58, true)⟩,
        ⟨some 61, .p (.lenL), [.t 60], some (58, true)⟩,
        ⟨some 62, .p (.bin .eql), [.t 61, .c (.int .i64 (.ofNat 1))], some (58, true)⟩,
        ⟨some 63, .p (.pick), [.t 58, .t 62, .c (.bool false)], none⟩,
        ⟨some 0, .p (.mv), [.t 63], none⟩])
      (.ret)))))), 64, [.t 0]⟩

/- (*varve/engine.Engine).Tick -/
def a13 : AFunc := ⟨.seq (.region [
   ⟨some 4, .p (.mv), [.c (.int .i64 (.ofNat 0))], none⟩])
 (.seq (.block 0 (.seq (.region [
      ⟨some 6, .p (.mv), [.t 0], none⟩,
      ⟨some 7, .p (.nilchk), [.t 6], none⟩,
      ⟨some 8, .p (.faddr 10), [.t 7], none⟩,
      ⟨some 9, .l (.load none), [.t 8], none⟩,
      ⟨some 5, .p (.mv), [.t 9], none⟩])
    (.cond (.t 5)
     (.seq (.region [
        ⟨some 4, .p (.mv), [.c (.int .i64 (.ofNat 16))], none⟩])
      (.ret))
     (.seq (.region [
        ⟨some 11, .p (.mv), [.t 1], none⟩,
        ⟨some 12, .p (.bin .lss), [.t 11, .c (.int .i64 (.ofNat 0))], none⟩,
        ⟨some 10, .p (.mv), [.t 12], none⟩])
      (.cond (.t 10)
       (.seq (.region [
          ⟨some 4, .p (.mv), [.c (.int .i64 (.ofNat 1))], none⟩])
        (.ret))
       (.skip))))))
  (.seq (.draw (.q ⟨some 13, .p (.mv), [.t 0], none⟩ (.q ⟨some 14, .p (.nilchk), [.t 13], none⟩ (.q ⟨some 15, .p (.faddr 6), [.t 14], none⟩ (.q ⟨some 16, .l (.load none), [.t 15], none⟩ (.q ⟨some 17, .p (.mv), [.t 1], none⟩ (.q ⟨some 18, .p (.mv), [.t 0], none⟩ (.q ⟨some 19, .p (.nilchk), [.t 18], none⟩ (.q ⟨some 20, .p (.faddr 6), [.t 19], none⟩ (.q ⟨some 21, .l (.load none), [.t 20], none⟩ (.q ⟨some 22, .p (.bin .sub), [.c (.int .i64 (.ofNat 1099511627775)), .t 21], none⟩ (.q ⟨some 23, .p (.mn), [.t 17, .t 22], none⟩ (.q ⟨some 24, .p (.bin .add), [.t 16, .t 23], none⟩ (.q ⟨some 25, .p (.nilchk), [.t 13], none⟩ (.q ⟨some 26, .p (.faddr 6), [.t 25], none⟩ (.e ⟨none, .i (.store 1), [.t 26, .t 24], none⟩ [] (.done)))))))))))))))))
   (.seq (.region [
      ⟨some 4, .p (.mv), [.c (.int .i64 (.ofNat 0))], none⟩])
    (.ret)))), 27, [.t 4]⟩

/- (*varve/engine.Engine).Now -/
def a14 : AFunc := ⟨.seq (.region [
   ⟨some 2, .p (.mv), [.c (.int .i64 (.ofNat 0))], none⟩])
 (.seq (.region [
    ⟨some 3, .p (.mv), [.t 0], none⟩,
    ⟨some 4, .p (.nilchk), [.t 3], none⟩,
    ⟨some 5, .p (.faddr 6), [.t 4], none⟩,
    ⟨some 6, .l (.load none), [.t 5], none⟩,
    ⟨some 2, .p (.mv), [.t 6], none⟩])
  (.ret)), 7, [.t 2]⟩

/- (*varve/engine.Engine).Write -/
def a15 : AFunc := ⟨.seq (.region [
   ⟨some 8, .p (.mv), [.c (.int .i64 (.ofNat 0))], none⟩])
 (.seq (.seq (.region [
     ⟨some 12, .p (.mv), [.t 0], none⟩,
     ⟨some 13, .i (.call 29), [.t 12], none⟩,
     ⟨some 9, .p (.mv), [.t 13], none⟩])
   (.seq (.region [
      ⟨some 14, .p (.mv), [.t 9], none⟩,
      ⟨some 15, .p (.bin .neq), [.t 14, .c (.int .i64 (.ofNat 0))], none⟩])
    (.cond (.t 15)
     (.seq (.region [
        ⟨some 16, .p (.mv), [.t 9], none⟩,
        ⟨some 8, .p (.mv), [.t 16], none⟩])
      (.ret))
     (.skip))))
  (.seq (.seq (.region [
      ⟨some 17, .p (.mv), [.t 1], none⟩,
      ⟨some 18, .i (.call 30), [.t 17], none⟩,
      ⟨some 19, .p (.un .not), [.t 18], none⟩,
      ⟨some 20, .p (.mv), [.t 19], none⟩,
      ⟨some 21, .p (.mv), [.t 3], some (20, false)⟩,
      ⟨some 22, .p (.lenL), [.t 21], some (20, false)⟩,
      ⟨some 23, .p (.bin .lss), [.t 22, .c (.int .i64 (.ofNat 1))], some (20, false)⟩,
      ⟨some 24, .p (.pick), [.t 20, .c (.bool true), .t 23], none⟩,
      ⟨some 25, .p (.mv), [.t 24], none⟩,
      ⟨some 26, .p (.mv), [.t 3], some (25, false)⟩,
      ⟨some 27, .p (.lenL), [.t 26], some (25, false)⟩,
      ⟨some 28, .p (.bin .gtr), [.t 27, .c (.int .i64 (.ofNat 1000))], some (25, false)⟩,
      ⟨some 29, .p (.pick), [.t 25, .c (.bool true), .t 28], none⟩])
    (.cond (.t 29)
     (.seq (.region [
        ⟨some 8, .p (.mv), [.c (.int .i64 (.ofNat 5))], none⟩])
      (.ret))
     (.skip)))
   (.seq (.seq (.region [
       ⟨some 30, .p (.mv), [.t 3], none⟩,
       ⟨some 31, .p (.lenL), [.t 30], none⟩,
       ⟨some 32, .p (.mv), [.c (.int .i64 (.ofNat 0))], none⟩])
     (.block 0 (.loop (.seq (.region [
          ⟨some 33, .p (.bin .lss), [.t 32, .t 31], none⟩])
        (.seq (.cond (.t 33)
          (.skip)
          (.exit 0))
         (.seq (.block 1 (.seq (.region [
              ⟨some 34, .p (.iaddr 3), [.t 30, .t 32], none⟩,
              ⟨some 35, .l (.load (some 3)), [.t 34], none⟩,
              ⟨some 11, .i (.alloc [(1, .int .u64 (.ofNat 0)), (1, .str []), (1, .int .u64 (.ofNat 0))]), [], none⟩,
              ⟨none, .i (.store 3), [.t 11, .t 35], none⟩])
            (.seq (.region [
               ⟨some 36, .p (.faddr 1), [.t 11], none⟩,
               ⟨some 37, .l (.load none), [.t 36], none⟩,
               ⟨some 38, .p (.lenS), [.t 37], none⟩,
               ⟨some 39, .p (.bin .gtr), [.t 38, .c (.int .i64 (.ofNat 256))], none⟩])
             (.cond (.t 39)
              (.seq (.region [
                 ⟨some 8, .p (.mv), [.c (.int .i64 (.ofNat 5))], none⟩])
               (.ret))
              (.skip)))))
          (.region [
            ⟨some 40, .p (.bin .add), [.t 32, .c (.int .i64 (.ofNat 1))], none⟩,
            ⟨some 32, .p (.mv), [.t 40], none⟩])))))))
    (.seq (.region [
       ⟨some 41, .p (.mv), [.t 0], none⟩,
       ⟨some 42, .p (.mv), [.t 1], none⟩,
       ⟨some 43, .p (.mv), [.t 2], none⟩,
       ⟨some 44, .p (.mv), [.t 3], none⟩,
       ⟨some 45, .i (.call 32), [.t 44], none⟩,
       ⟨some 46, .p (.build [(1, .list .full 2 []), (1, .int .i64 (.ofNat 0)), (1, .list .full 2 []), (1, .list .full 1 []), (1, .int .u64 (.ofNat 0)), (1, .int .u64 (.ofNat 0)), (1, .int .u64 (.ofNat 0)), (1, .int .u64 (.ofNat 0))] [(0, 1), (1, 1), (2, 6)]), [.t 42, .t 43, .t 45], none⟩,
       ⟨some 47, .i (.call 31), [.t 41, .t 46], none⟩,
       ⟨some 8, .p (.mv), [.t 47], none⟩])
     (.ret))))), 48, [.t 8]⟩

/- varve/varvelaw00.Set -/
def a16 : AFunc := ⟨.seq (.region [
   ⟨some 2, .p (.mv), [.c (.list .full 2 [])], none⟩])
 (.seq (.region [
    ⟨some 5, .p (.mv), [.t 0], none⟩,
    ⟨some 6, .i (.call 9), [.t 5, .c (.int .i64 (.ofNat 12))], none⟩,
    ⟨some 3, .p (.mv), [.t 6], none⟩])
  (.seq (.region [
     ⟨some 7, .p (.mv), [.t 3], none⟩,
     ⟨some 8, .p (.mv), [.t 3], none⟩,
     ⟨some 9, .p (.bin .add), [.t 8, .c (.int .i64 (.ofNat 1))], none⟩,
     ⟨some 10, .p (.slS true true), [.c (.str [48, 49, 50, 51, 52, 53, 54, 55, 56, 57, 97, 98]), .t 7, .t 9], none⟩,
     ⟨some 11, .p (.bin .add), [.c (.str [104]), .t 10], none⟩,
     ⟨some 12, .p (.build [(1, .str []), (1, .str [])] [(0, 1), (1, 1)]), [.c (.str [104, 111, 115, 116]), .t 11], none⟩,
     ⟨some 13, .p (.bsl 2 1 true [(1, .str []), (1, .str [])] [(0, 2)]), [.t 12], none⟩,
     ⟨some 4, .p (.mv), [.t 13], none⟩])
   (.seq (.seq (.region [
       ⟨some 14, .p (.mv), [.t 3], none⟩,
       ⟨some 15, .p (.bin .rem), [.t 14, .c (.int .i64 (.ofNat 2))], none⟩,
       ⟨some 16, .p (.bin .eql), [.t 15, .c (.int .i64 (.ofNat 1))], none⟩])
     (.cond (.t 16)
      (.region [
        ⟨some 17, .p (.mv), [.t 4], none⟩,
        ⟨some 18, .p (.mv), [.t 3], none⟩,
        ⟨some 19, .p (.bin .quo), [.t 18, .c (.int .i64 (.ofNat 3))], none⟩,
        ⟨some 20, .p (.mv), [.t 3], none⟩,
        ⟨some 21, .p (.bin .quo), [.t 20, .c (.int .i64 (.ofNat 3))], none⟩,
        ⟨some 22, .p (.bin .add), [.t 21, .c (.int .i64 (.ofNat 1))], none⟩,
        ⟨some 23, .p (.slS true true), [.c (.str [48, 49, 50, 51, 52, 53, 54, 55, 56, 57, 97, 98]), .t 19, .t 22], none⟩,
        ⟨some 24, .p (.bin .add), [.c (.str [122]), .t 23], none⟩,
        ⟨some 25, .p (.build [(1, .str []), (1, .str [])] [(0, 1), (1, 1)]), [.c (.str [122, 111, 110, 101]), .t 24], none⟩,
        ⟨some 26, .p (.bsl 2 1 true [(1, .str []), (1, .str [])] [(0, 2)]), [.t 25], none⟩,
        ⟨some 27, .i (.append 2 32), [.t 17, .t 26], none⟩,
        ⟨some 4, .p (.mv), [.t 27], none⟩])
      (.skip)))
    (.seq (.region [
       ⟨some 28, .p (.mv), [.t 4], none⟩,
       ⟨some 2, .p (.mv), [.t 28], none⟩])
     (.ret))))), 29, [.t 2]⟩

/- (*varve/engine.Engine).Rows -/
def a19 : AFunc := ⟨.seq (.region [
   ⟨some 2, .p (.mv), [.c (.list .full 8 [])], none⟩])
 (.seq (.draw (.q ⟨some 3, .p (.mv), [.t 0], none⟩ (.q ⟨some 4, .p (.nilchk), [.t 3], none⟩ (.q ⟨some 5, .p (.faddr 7), [.t 4], none⟩ (.q ⟨some 6, .l (.load none), [.t 5], none⟩ (.q ⟨some 7, .p (.mv), [.t 0], none⟩ (.q ⟨some 8, .p (.nilchk), [.t 7], none⟩ (.q ⟨some 9, .p (.faddr 1), [.t 8], none⟩ (.q ⟨some 10, .l (.load (some 5)), [.t 9], none⟩ (.q ⟨some 11, .p (.mv), [.t 0], none⟩ (.q ⟨some 12, .p (.nilchk), [.t 11], none⟩ (.q ⟨some 13, .p (.faddr 6), [.t 12], none⟩ (.q ⟨some 14, .l (.load none), [.t 13], none⟩ (.e ⟨some 15, .i (.call 37), [.t 6, .t 10, .t 14], none⟩ [] (.q ⟨some 2, .p (.mv), [.t 15], none⟩ (.done))))))))))))))))
  (.ret)), 16, [.t 2]⟩

/- varve/vfs.New -/
def a22 : AFunc := ⟨.seq (.region [
   ⟨some 0, .p (.mv), [.c (.nilp)], none⟩])
 (.seq (.region [
    ⟨some 1, .i (.mkmap), [], none⟩,
    ⟨some 2, .i (.mkmap), [], none⟩,
    ⟨some 3, .p (.build [(1, .nilm), (1, .nilm), (1, .list .full 4 []), (1, .int .i64 (.ofNat 0)), (1, .int .i64 (.ofNat 0)), (1, .bool false), (1, .int .i64 (.ofNat 0)), (1, .int .i64 (.ofNat 0)), (1, .bool false)] [(0, 1), (1, 1)]), [.t 1, .t 2], none⟩,
    ⟨some 4, .i (.box 9), [.t 3], none⟩,
    ⟨some 0, .p (.mv), [.t 4], none⟩])
  (.ret)), 5, [.t 0]⟩

/- varve/engine.Open -/
def a23 : AFunc := ⟨.seq (.region [
   ⟨some 3, .i (.box 1), [.t 0], none⟩,
   ⟨some 4, .i (.box 5), [.t 1], none⟩,
   ⟨some 6, .p (.mv), [.c (.nilp)], none⟩,
   ⟨some 7, .p (.mv), [.c (.int .i64 (.ofNat 0))], none⟩])
 (.seq (.seq (.region [
     ⟨some 11, .l (.load (some 5)), [.t 4], none⟩,
     ⟨some 12, .i (.call 38), [.t 11], none⟩,
     ⟨some 13, .p (.un .not), [.t 12], none⟩,
     ⟨some 14, .p (.mv), [.t 13], none⟩,
     ⟨some 15, .p (.mv), [.t 2], some (14, false)⟩,
     ⟨some 16, .p (.bin .lss), [.t 15, .c (.int .i64 (.ofNat 0))], some (14, false)⟩,
     ⟨some 17, .p (.pick), [.t 14, .c (.bool true), .t 16], none⟩,
     ⟨some 18, .p (.mv), [.t 17], none⟩,
     ⟨some 19, .p (.mv), [.t 2], some (18, false)⟩,
     ⟨some 20, .p (.bin .geq), [.t 19, .c (.int .i64 (.ofNat 1099511627776))], some (18, false)⟩,
     ⟨some 21, .p (.pick), [.t 18, .c (.bool true), .t 20], none⟩])
   (.cond (.t 21)
    (.seq (.region [
       ⟨some 6, .p (.mv), [.c (.nilp)], none⟩,
       ⟨some 7, .p (.mv), [.c (.int .i64 (.ofNat 1))], none⟩])
     (.ret))
    (.skip)))
  (.seq (.region [
     ⟨some 23, .l (.load none), [.t 3], none⟩,
     ⟨some 24, .p (.mv), [.t 2], none⟩,
     ⟨some 25, .i (.call 39), [.t 23, .t 24], none⟩,
     ⟨some 22, .p (.mv), [.t 25], none⟩,
     ⟨some 26, .p (.ext 0), [.t 22], none⟩,
     ⟨some 27, .p (.ext 1), [.t 22], none⟩,
     ⟨some 8, .i (.alloc [(1, .nilp)]), [], none⟩,
     ⟨none, .i (.store 1), [.t 8, .t 26], none⟩,
     ⟨some 9, .p (.mv), [.t 27], none⟩])
   (.seq (.seq (.region [
       ⟨some 28, .p (.mv), [.t 9], none⟩,
       ⟨some 29, .p (.bin .neq), [.t 28, .c (.int .i64 (.ofNat 0))], none⟩])
     (.cond (.t 29)
      (.seq (.region [
         ⟨some 30, .p (.mv), [.t 9], none⟩,
         ⟨some 6, .p (.mv), [.c (.nilp)], none⟩,
         ⟨some 7, .p (.mv), [.t 30], none⟩])
       (.ret))
      (.skip)))
    (.seq (.draw (.q ⟨some 31, .l (.load none), [.t 3], none⟩ (.q ⟨some 32, .l (.load (some 5)), [.t 4], none⟩ (.q ⟨some 33, .p (.mv), [.t 2], none⟩ (.q ⟨some 34, .l (.load none), [.t 8], none⟩ (.q ⟨some 35, .p (.nilchk), [.t 34], none⟩ (.q ⟨some 36, .p (.faddr 0), [.t 35], none⟩ (.q ⟨some 37, .p (.faddr 3), [.t 36], none⟩ (.q ⟨some 38, .l (.load none), [.t 37], none⟩ (.q ⟨some 39, .p (.mx), [.t 33, .t 38], none⟩ (.q ⟨some 40, .l (.load none), [.t 8], none⟩ (.e ⟨some 41, .i (.mkmap), [], none⟩ [⟨some 31, .l (.load none), [.t 3], none⟩, ⟨some 32, .l (.load (some 5)), [.t 4], none⟩, ⟨some 34, .l (.load none), [.t 8], none⟩, ⟨some 38, .l (.load none), [.t 37], none⟩, ⟨some 40, .l (.load none), [.t 8], none⟩] (.q ⟨some 42, .p (.build [(1, .nilp), (1, .int .i64 (.ofNat 0)), (1, .int .i64 (.ofNat 0)), (1, .int .i64 (.ofNat 0)), (1, .int .i64 (.ofNat 0)), (1, .int .i64 (.ofNat 0)), (1, .int .i64 (.ofNat 0)), (1, .nilp), (1, .nilm), (1, .bool false), (1, .bool false)] [(0, 1), (1, 5), (6, 1), (7, 1), (8, 1)]), [.t 31, .t 32, .t 39, .t 40, .t 41], none⟩ (.e ⟨some 43, .i (.box 11), [.t 42], none⟩ [] (.q ⟨some 10, .p (.mv), [.t 43], none⟩ (.done))))))))))))))))
     (.seq (.seq (.region [
         ⟨some 44, .l (.load none), [.t 8], none⟩,
         ⟨some 45, .p (.nilchk), [.t 44], none⟩,
         ⟨some 46, .p (.faddr 6), [.t 45], none⟩,
         ⟨some 47, .l (.load none), [.t 46], none⟩])
       (.cond (.t 47)
        (.seq (.region [
           ⟨some 48, .p (.mv), [.t 10], none⟩,
           ⟨some 49, .p (.mkf (.func 41) 0), [.t 3, .t 8], none⟩,
           ⟨some 50, .p (.bsl 1 1 false [(1, .nilf)] [(0, 1)]), [.t 49], none⟩,
           ⟨some 51, .i (.call 40), [.t 48, .t 50], none⟩,
           ⟨some 9, .p (.mv), [.t 51], none⟩])
         (.seq (.region [
            ⟨some 52, .p (.mv), [.t 9], none⟩,
            ⟨some 53, .p (.bin .neq), [.t 52, .c (.int .i64 (.ofNat 0))], none⟩])
          (.cond (.t 53)
           (.seq (.region [
              ⟨some 54, .p (.mv), [.t 9], none⟩,
              ⟨some 6, .p (.mv), [.c (.nilp)], none⟩,
              ⟨some 7, .p (.mv), [.t 54], none⟩])
            (.ret))
           (.skip))))
        (.skip)))
      (.seq (.seq (.region [
          ⟨some 55, .p (.mv), [.t 10], none⟩,
          ⟨some 56, .l (.load none), [.t 8], none⟩,
          ⟨some 57, .p (.nilchk), [.t 56], none⟩,
          ⟨some 58, .p (.faddr 8), [.t 57], none⟩,
          ⟨some 59, .l (.load none), [.t 58], none⟩,
          ⟨some 60, .p (.mkf (.func 43) 1), [.t 59], none⟩,
          ⟨some 61, .p (.bsl 1 1 false [(1, .nilf)] [(0, 1)]), [.t 60], none⟩,
          ⟨some 62, .i (.call 40), [.t 55, .t 61], none⟩,
          ⟨some 9, .p (.mv), [.t 62], none⟩])
        (.seq (.region [
           ⟨some 63, .p (.mv), [.t 9], none⟩,
           ⟨some 64, .p (.bin .neq), [.t 63, .c (.int .i64 (.ofNat 0))], none⟩])
         (.cond (.t 64)
          (.seq (.region [
             ⟨some 65, .p (.mv), [.t 9], none⟩,
             ⟨some 6, .p (.mv), [.c (.nilp)], none⟩,
             ⟨some 7, .p (.mv), [.t 65], none⟩])
           (.ret))
          (.skip))))
       (.seq (.region [
          ⟨some 66, .p (.mv), [.t 10], none⟩,
          ⟨some 6, .p (.mv), [.t 66], none⟩,
          ⟨some 7, .p (.mv), [.c (.int .i64 (.ofNat 0))], none⟩])
        (.ret)))))))), 67, [.t 6, .t 7]⟩

/- varve/query.Check -/
def a24 : AFunc := ⟨.seq (.region [
   ⟨some 3, .i (.box 5), [.t 0], none⟩,
   ⟨some 5, .i (.box 11), [.t 2], none⟩,
   ⟨some 6, .p (.mv), [.c (.int .i64 (.ofNat 0))], none⟩])
 (.seq (.block 0 (.seq (.region [
      ⟨some 8, .p (.faddr 0), [.t 5], none⟩,
      ⟨some 9, .l (.load (some 5)), [.t 8], none⟩,
      ⟨some 10, .i (.call 34), [.t 9], none⟩,
      ⟨some 11, .p (.un .not), [.t 10], none⟩,
      ⟨some 12, .p (.mv), [.t 11], none⟩,
      ⟨some 13, .p (.faddr 8), [.t 5], some (12, false)⟩,
      ⟨some 14, .l (.load none), [.t 13], some (12, false)⟩,
      ⟨some 15, .p (.bin .lss), [.t 14, .c (.int .i64 (.ofNat 1))], some (12, false)⟩,
      ⟨some 16, .p (.pick), [.t 12, .c (.bool true), .t 15], none⟩,
      ⟨some 17, .p (.mv), [.t 16], none⟩,
      ⟨some 18, .p (.faddr 8), [.t 5], some (17, false)⟩,
      ⟨some 19, .l (.load none), [.t 18], some (17, false)⟩,
      ⟨some 20, .p (.bin .gtr), [.t 19, .c (.int .i64 (.ofNat 6))], some (17, false)⟩,
      ⟨some 21, .p (.pick), [.t 17, .c (.bool true), .t 20], none⟩,
      ⟨some 22, .p (.mv), [.t 21], none⟩,
      ⟨some 23, .p (.faddr 8), [.t 5], some (22, false)⟩,
      ⟨some 24, .l (.load none), [.t 23], some (22, false)⟩,
      ⟨some 25, .p (.bin .eql), [.t 24, .c (.int .i64 (.ofNat 2))], some (22, false)⟩,
      ⟨some 26, .p (.mv), [.t 25], some (22, false)⟩,
      ⟨some 27, .p (.faddr 10), [.t 5], some (26, true)⟩,
      ⟨some 28, .l (.load none), [.t 27], some (26, true)⟩,
      ⟨some 29, .p (.bin .eql), [.t 28, .c (.int .u64 (.ofNat 0))], some (26, true)⟩,
      ⟨some 30, .p (.mv), [.t 29], some (26, true)⟩,
      ⟨some 31, .p (.faddr 9), [.t 5], some (30, false)⟩,
      ⟨some 32, .l (.load none), [.t 31], some (30, false)⟩,
      ⟨some 33, .p (.faddr 10), [.t 5], some (30, false)⟩,
      ⟨some 34, .l (.load none), [.t 33], some (30, false)⟩,
      ⟨some 35, .p (.bin .gtr), [.t 32, .t 34], some (30, false)⟩,
      ⟨some 36, .p (.pick), [.t 30, .c (.bool true), .t 35], some (26, true)⟩,
      ⟨some 37, .p (.pick), [.t 26, .t 36, .c (.bool false)], some (22, false)⟩,
      ⟨some 38, .p (.pick), [.t 22, .c (.bool true), .t 37], none⟩,
      ⟨some 39, .p (.mv), [.t 38], none⟩,
      ⟨some 40, .p (.faddr 5), [.t 5], some (39, false)⟩,
      ⟨some 41, .l (.load none), [.t 40], some (39, false)⟩,
      ⟨some 42, .p (.bin .lss), [.t 41, .c (.int .i64 (.ofNat 0))], some (39, false)⟩,
      ⟨some 43, .p (.pick), [.t 39, .c (.bool true), .t 42], none⟩,
      ⟨some 44, .p (.mv), [.t 43], none⟩,
      ⟨some 45, .p (.faddr 6), [.t 5], some (44, false)⟩,
      ⟨some 46, .l (.load none), [.t 45], some (44, false)⟩,
      ⟨some 47, .p (.bin .lss), [.t 46, .c (.int .i64 (.ofNat 1))], some (44, false)⟩,
      ⟨some 48, .p (.pick), [.t 44, .c (.bool true), .t 47], none⟩,
      ⟨some 49, .p (.mv), [.t 48], none⟩,
      ⟨some 50, .p (.faddr 7), [.t 5], some (49, false)⟩,
      ⟨some 51, .l (.load none), [.t 50], some (49, false)⟩,
      ⟨some 52, .p (.bin .lss), [.t 51, .c (.int .i64 (.ofNat 1))], some (49, false)⟩,
      ⟨some 53, .p (.pick), [.t 49, .c (.bool true), .t 52], none⟩,
      ⟨some 7, .p (.mv), [.t 53], none⟩])
    (.cond (.t 7)
     (.seq (.region [
        ⟨some 6, .p (.mv), [.c (.int .i64 (.ofNat 5))], none⟩])
      (.ret))
     (.seq (.draw (.q ⟨some 55, .p (.faddr 7), [.t 5], none⟩ (.q ⟨some 56, .l (.load none), [.t 55], none⟩ (.q ⟨some 57, .p (.bin .gtr), [.t 56, .c (.int .i64 (.ofNat 1000))], none⟩ (.q ⟨some 58, .p (.mv), [.t 57], none⟩ (.q ⟨some 59, .p (.faddr 5), [.t 5], some (58, false)⟩ (.q ⟨some 60, .l (.load none), [.t 59], some (58, false)⟩ (.q ⟨some 61, .p (.bin .gtr), [.t 60, .c (.int .i64 (.ofNat 1099511627776))], some (58, false)⟩ (.q ⟨some 62, .p (.pick), [.t 58, .c (.bool true), .t 61], none⟩ (.q ⟨some 63, .p (.mv), [.t 62], none⟩ (.q ⟨some 64, .p (.faddr 7), [.t 5], some (63, false)⟩ (.q ⟨some 65, .l (.load none), [.t 64], some (63, false)⟩ (.q ⟨some 66, .p (.faddr 5), [.t 5], some (63, false)⟩ (.q ⟨some 67, .l (.load none), [.t 66], some (63, false)⟩ (.q ⟨some 68, .p (.bin .sub), [.c (.int .i64 (.ofNat 1099511627776)), .t 67], some (63, false)⟩ (.q ⟨some 69, .p (.faddr 6), [.t 5], some (63, false)⟩ (.q ⟨some 70, .l (.load none), [.t 69], some (63, false)⟩ (.q ⟨some 71, .p (.bin .quo), [.t 68, .t 70], some (63, false)⟩ (.q ⟨some 72, .p (.bin .gtr), [.t 65, .t 71], some (63, false)⟩ (.q ⟨some 73, .p (.pick), [.t 63, .c (.bool true), .t 72], none⟩ (.q ⟨some 54, .p (.mv), [.t 73], none⟩ (.done))))))))))))))))))))))
      (.cond (.t 54)
       (.seq (.region [
          ⟨some 6, .p (.mv), [.c (.int .i64 (.ofNat 10))], none⟩])
        (.ret))
       (.seq (.draw (.q ⟨some 75, .p (.faddr 5), [.t 5], none⟩ (.q ⟨some 76, .l (.load none), [.t 75], none⟩ (.q ⟨some 77, .l (.load (some 5)), [.t 3], none⟩ (.q ⟨some 78, .p (.mv), [.t 1], none⟩ (.q ⟨some 79, .p (.faddr 5), [.t 5], none⟩ (.q ⟨some 80, .l (.load none), [.t 79], none⟩ (.q ⟨some 81, .p (.faddr 6), [.t 5], none⟩ (.q ⟨some 82, .l (.load none), [.t 81], none⟩ (.e ⟨some 83, .i (.call 45), [.t 80, .t 82], none⟩ [⟨some 76, .l (.load none), [.t 75], none⟩, ⟨some 77, .l (.load (some 5)), [.t 3], none⟩] (.e ⟨some 84, .i (.call 44), [.t 77, .t 78, .t 83], none⟩ [⟨some 76, .l (.load none), [.t 75], none⟩] (.q ⟨some 85, .p (.bin .lss), [.t 76, .t 84], none⟩ (.q ⟨some 74, .p (.mv), [.t 85], none⟩ (.done))))))))))))))
        (.cond (.t 74)
         (.seq (.region [
            ⟨some 6, .p (.mv), [.c (.int .i64 (.ofNat 9))], none⟩])
          (.ret))
         (.skip))))))))
  (.seq (.region [
     ⟨some 6, .p (.mv), [.c (.int .i64 (.ofNat 0))], none⟩])
   (.ret))), 86, [.t 6]⟩

/- varve/match.Own -/
def a25 : AFunc := ⟨.seq (.region [
   ⟨some 1, .i (.box 5), [.t 0], none⟩,
   ⟨some 2, .i (.alloc [(1, .int .i64 (.ofNat 0)), (1, .str []), (1, .str []), (1, .list .full 1 []), (1, .list .full 5 [])]), [], none⟩])
 (.seq (.seq (.region [
     ⟨some 3, .l (.load (some 5)), [.t 1], none⟩,
     ⟨some 4, .i (.call 34), [.t 3], none⟩])
   (.cond (.t 4)
    (.seq (.region [
       ⟨some 5, .l (.load (some 5)), [.t 1], none⟩,
       ⟨some 6, .i (.call 46), [.t 5], none⟩,
       ⟨none, .i (.store 5), [.t 2, .t 6], none⟩])
     (.ret))
    (.skip)))
  (.seq (.region [
     ⟨some 7, .l (.load (some 5)), [.t 1], none⟩,
     ⟨none, .i (.store 5), [.t 2, .t 7], none⟩])
   (.ret))), 8, [.cell 2 (some 5)]⟩

/- varve/query.Meant -/
def a26 : AFunc := ⟨.seq (.region [
   ⟨some 2, .i (.box 5), [.t 0], none⟩,
   ⟨some 4, .p (.mv), [.c (.list .full 8 [])], none⟩])
 (.scope (.seq (.region [
     ⟨some 5, .p (.mv), [.c (.list .full 8 [])], none⟩])
   (.seq (.label 0)
    (.seq (.seq (.region [
        ⟨some 8, .p (.mv), [.t 1], none⟩,
        ⟨some 9, .p (.lenL), [.t 8], none⟩,
        ⟨some 10, .p (.mv), [.c (.int .i64 (.ofNat 0))], none⟩])
      (.block 0 (.loop (.seq (.region [
           ⟨some 11, .p (.bin .lss), [.t 10, .t 9], none⟩])
         (.seq (.cond (.t 11)
           (.skip)
           (.exit 0))
          (.seq (.block 1 (.seq (.region [
               ⟨some 12, .p (.iaddr 8), [.t 8, .t 10], none⟩,
               ⟨some 13, .l (.load (some 8)), [.t 12], none⟩,
               ⟨some 7, .i (.alloc [(1, .list .full 2 []), (1, .int .i64 (.ofNat 0)), (1, .list .full 2 []), (1, .list .full 1 []), (1, .int .u64 (.ofNat 0)), (1, .int .u64 (.ofNat 0)), (1, .int .u64 (.ofNat 0)), (1, .int .u64 (.ofNat 0))]), [], none⟩,
               ⟨none, .i (.store 8), [.t 7, .t 13], none⟩])
             (.seq (.seq (.region [
                 ⟨some 14, .l (.load (some 8)), [.t 7], none⟩,
                 ⟨some 15, .i (.call 47), [.t 14], none⟩,
                 ⟨some 16, .p (.un .not), [.t 15], none⟩,
                 ⟨some 17, .p (.mv), [.t 16], none⟩,
                 ⟨some 18, .l (.load (some 5)), [.t 2], some (17, false)⟩,
                 ⟨some 19, .p (.faddr 0), [.t 7], some (17, false)⟩,
                 ⟨some 20, .l (.load none), [.t 19], some (17, false)⟩,
                 ⟨some 21, .i (.call 48), [.t 18, .t 20], some (17, false)⟩,
                 ⟨some 22, .p (.un .not), [.t 21], some (17, false)⟩,
                 ⟨some 23, .p (.pick), [.t 17, .c (.bool true), .t 22], none⟩])
               (.cond (.t 23)
                (.exit 1)
                (.skip)))
              (.region [
                ⟨some 24, .p (.mv), [.t 5], none⟩,
                ⟨some 25, .l (.load (some 8)), [.t 7], none⟩,
                ⟨some 26, .p (.bsl 8 1 true [(1, .list .full 2 []), (1, .int .i64 (.ofNat 0)), (1, .list .full 2 []), (1, .list .full 1 []), (1, .int .u64 (.ofNat 0)), (1, .int .u64 (.ofNat 0)), (1, .int .u64 (.ofNat 0)), (1, .int .u64 (.ofNat 0))] [(0, 8)]), [.t 25], none⟩,
                ⟨some 27, .i (.append 8 112), [.t 24, .t 26], none⟩,
                ⟨some 5, .p (.mv), [.t 27], none⟩]))))
           (.region [
             ⟨some 28, .p (.bin .add), [.t 10, .c (.int .i64 (.ofNat 1))], none⟩,
             ⟨some 10, .p (.mv), [.t 28], none⟩])))))))
     (.seq (.region [
        ⟨some 29, .p (.mv), [.t 5], none⟩,
        ⟨some 4, .p (.mv), [.t 29], none⟩])
      (.ret)))))), 30, [.t 4]⟩

/- (*varve/load.State).Live -/
def a27 : AFunc := ⟨.seq (.region [
   ⟨some 2, .p (.mv), [.c (.list .full 8 [])], none⟩])
 (.seq (.region [
    ⟨some 6, .p (.mv), [.t 0], none⟩,
    ⟨some 7, .p (.nilchk), [.t 6], none⟩,
    ⟨some 8, .p (.faddr 9), [.t 7], none⟩,
    ⟨some 9, .l (.load none), [.t 8], none⟩,
    ⟨some 10, .i (.call 49), [.t 9], none⟩,
    ⟨some 3, .p (.mv), [.t 10], none⟩])
  (.seq (.seq (.region [
      ⟨some 11, .p (.mv), [.t 0], none⟩,
      ⟨some 12, .p (.nilchk), [.t 11], none⟩,
      ⟨some 13, .p (.faddr 7), [.t 12], none⟩,
      ⟨some 14, .l (.load none), [.t 13], none⟩,
      ⟨some 15, .p (.lenL), [.t 14], none⟩,
      ⟨some 16, .p (.mv), [.c (.int .i64 (.ofNat 0))], none⟩])
    (.block 0 (.loop (.seq (.region [
         ⟨some 17, .p (.bin .lss), [.t 16, .t 15], none⟩])
       (.seq (.cond (.t 17)
         (.skip)
         (.exit 0))
        (.seq (.block 1 (.seq (.region [
             ⟨some 18, .p (.iaddr 8), [.t 14, .t 16], none⟩,
             ⟨some 19, .l (.load (some 8)), [.t 18], none⟩,
             ⟨some 5, .i (.alloc [(1, .int .i64 (.ofNat 0)), (1, .int .i64 (.ofNat 0)), (1, .int .i64 (.ofNat 0)), (1, .int .i64 (.ofNat 0)), (1, .int .i64 (.ofNat 0)), (1, .int .i64 (.ofNat 0)), (1, .int .i64 (.ofNat 0)), (1, .list .full 8 [])]), [], none⟩,
             ⟨none, .i (.store 8), [.t 5, .t 19], none⟩])
           (.region [
             ⟨some 20, .p (.mv), [.t 3], none⟩,
             ⟨some 21, .p (.mv), [.t 0], none⟩,
             ⟨some 22, .l (.load (some 8)), [.t 5], none⟩,
             ⟨some 23, .i (.call 50), [.t 21, .t 22], none⟩,
             ⟨some 24, .i (.append 8 112), [.t 20, .t 23], none⟩,
             ⟨some 3, .p (.mv), [.t 24], none⟩])))
         (.region [
           ⟨some 25, .p (.bin .add), [.t 16, .c (.int .i64 (.ofNat 1))], none⟩,
           ⟨some 16, .p (.mv), [.t 25], none⟩])))))))
   (.seq (.region [
      ⟨some 26, .p (.mv), [.t 3], none⟩,
      ⟨some 2, .p (.mv), [.t 26], none⟩])
    (.ret)))), 27, [.t 2]⟩

/- varve/query.Window -/
def a28 : AFunc := ⟨.seq (.region [
   ⟨some 4, .i (.box 11), [.t 0], none⟩,
   ⟨some 8, .i (.alloc [(1, .int .i64 (.ofNat 0)), (1, .bool false), (1, .int .u64 (.ofNat 0)), (1, .int .i64 (.ofNat 0))]), [], none⟩])
 (.seq (.region [
    ⟨some 9, .p (.mv), [.c (.list .full 6 [])], none⟩])
  (.seq (.seq (.region [
      ⟨some 15, .p (.mv), [.t 1], none⟩,
      ⟨some 16, .p (.lenL), [.t 15], none⟩,
      ⟨some 17, .p (.mv), [.c (.int .i64 (.ofNat 0))], none⟩])
    (.block 0 (.loop (.seq (.region [
         ⟨some 18, .p (.bin .lss), [.t 17, .t 16], none⟩])
       (.seq (.cond (.t 18)
         (.skip)
         (.exit 0))
        (.seq (.block 1 (.seq (.region [
             ⟨some 19, .p (.iaddr 8), [.t 15, .t 17], none⟩,
             ⟨some 20, .l (.load (some 8)), [.t 19], none⟩,
             ⟨some 11, .i (.alloc [(1, .list .full 2 []), (1, .int .i64 (.ofNat 0)), (1, .list .full 2 []), (1, .list .full 1 []), (1, .int .u64 (.ofNat 0)), (1, .int .u64 (.ofNat 0)), (1, .int .u64 (.ofNat 0)), (1, .int .u64 (.ofNat 0))]), [], none⟩,
             ⟨none, .i (.store 8), [.t 11, .t 20], none⟩])
           (.seq (.region [
              ⟨some 21, .p (.faddr 1), [.t 11], none⟩,
              ⟨some 22, .l (.load none), [.t 21], none⟩,
              ⟨some 23, .p (.mv), [.t 2], none⟩,
              ⟨some 24, .p (.bin .geq), [.t 22, .t 23], none⟩,
              ⟨some 25, .p (.mv), [.t 24], none⟩,
              ⟨some 26, .p (.faddr 1), [.t 11], some (25, true)⟩,
              ⟨some 27, .l (.load none), [.t 26], some (25, true)⟩,
              ⟨some 28, .p (.mv), [.t 3], some (25, true)⟩,
              ⟨some 29, .p (.bin .lss), [.t 27, .t 28], some (25, true)⟩,
              ⟨some 30, .p (.pick), [.t 25, .t 29, .c (.bool false)], none⟩])
            (.cond (.t 30)
             (.region [
               ⟨some 31, .p (.mv), [.t 9], none⟩,
               ⟨some 32, .p (.faddr 2), [.t 11], none⟩,
               ⟨some 33, .l (.load (some 6)), [.t 32], none⟩,
               ⟨some 34, .p (.bsl 6 1 true [(1, .list .full 2 []), (1, .list .full 1 []), (1, .int .u64 (.ofNat 0)), (1, .int .u64 (.ofNat 0)), (1, .int .u64 (.ofNat 0)), (1, .int .u64 (.ofNat 0))] [(0, 6)]), [.t 33], none⟩,
               ⟨some 35, .i (.append 6 80), [.t 31, .t 34], none⟩,
               ⟨some 9, .p (.mv), [.t 35], none⟩])
             (.skip)))))
         (.region [
           ⟨some 36, .p (.bin .add), [.t 17, .c (.int .i64 (.ofNat 1))], none⟩,
           ⟨some 17, .p (.mv), [.t 36], none⟩])))))))
   (.seq (.region [
      ⟨some 38, .p (.mv), [.t 9], none⟩,
      ⟨some 39, .i (.call 51), [.t 38], none⟩,
      ⟨some 37, .p (.mv), [.t 39], none⟩,
      ⟨some 40, .p (.ext 0), [.t 37], none⟩,
      ⟨some 41, .p (.ext 1), [.t 37], none⟩,
      ⟨some 12, .i (.alloc [(1, .list .full 2 []), (1, .list .full 1 []), (1, .int .u64 (.ofNat 0)), (1, .int .u64 (.ofNat 0)), (1, .int .u64 (.ofNat 0)), (1, .int .u64 (.ofNat 0))]), [], none⟩,
      ⟨none, .i (.store 6), [.t 12, .t 40], none⟩,
      ⟨some 13, .p (.mv), [.t 41], none⟩])
    (.seq (.region [
       ⟨some 42, .l (.load (some 11)), [.t 4], none⟩,
       ⟨some 43, .l (.load (some 6)), [.t 12], none⟩,
       ⟨some 44, .i (.call 52), [.t 42, .t 43], none⟩,
       ⟨some 14, .i (.alloc [(1, .int .i64 (.ofNat 0)), (1, .bool false), (1, .int .u64 (.ofNat 0)), (1, .int .i64 (.ofNat 0))]), [], none⟩,
       ⟨none, .i (.store 4), [.t 14, .t 44], none⟩])
     (.seq (.region [
        ⟨some 45, .p (.mv), [.t 2], none⟩,
        ⟨some 46, .p (.faddr 0), [.t 14], none⟩,
        ⟨none, .i (.store 1), [.t 46, .t 45], none⟩])
      (.seq (.region [
         ⟨some 47, .l (.load (some 4)), [.t 14], none⟩,
         ⟨none, .i (.store 4), [.t 8, .t 47], none⟩])
       (.ret))))))), 48, [.cell 8 (some 4)]⟩

/- (*varve/engine.Engine).barred -/
def a29 : AFunc := ⟨.seq (.region [
   ⟨some 2, .p (.mv), [.c (.int .i64 (.ofNat 0))], none⟩])
 (.seq (.block 0 (.seq (.region [
      ⟨some 4, .p (.mv), [.t 0], none⟩,
      ⟨some 5, .p (.nilchk), [.t 4], none⟩,
      ⟨some 6, .p (.faddr 10), [.t 5], none⟩,
      ⟨some 7, .l (.load none), [.t 6], none⟩,
      ⟨some 3, .p (.mv), [.t 7], none⟩])
    (.cond (.t 3)
     (.seq (.region [
        ⟨some 2, .p (.mv), [.c (.int .i64 (.ofNat 16))], none⟩])
      (.ret))
     (.seq (.region [
        ⟨some 9, .p (.mv), [.t 0], none⟩,
        ⟨some 10, .p (.nilchk), [.t 9], none⟩,
        ⟨some 11, .p (.faddr 9), [.t 10], none⟩,
        ⟨some 12, .l (.load none), [.t 11], none⟩,
        ⟨some 8, .p (.mv), [.t 12], none⟩])
      (.cond (.t 8)
       (.seq (.region [
          ⟨some 2, .p (.mv), [.c (.int .i64 (.ofNat 12))], none⟩])
        (.ret))
       (.skip))))))
  (.seq (.region [
     ⟨some 2, .p (.mv), [.c (.int .i64 (.ofNat 0))], none⟩])
   (.ret))), 13, [.t 2]⟩

/- varve/label.Check -/
def a30 : AFunc := ⟨.seq (.region [
   ⟨some 2, .p (.mv), [.c (.bool false)], none⟩])
 (.seq (.seq (.region [
     ⟨some 5, .p (.mv), [.t 0], none⟩,
     ⟨some 6, .p (.lenL), [.t 5], none⟩,
     ⟨some 7, .p (.bin .lss), [.t 6, .c (.int .i64 (.ofNat 1))], none⟩,
     ⟨some 8, .p (.mv), [.t 7], none⟩,
     ⟨some 9, .p (.mv), [.t 0], some (8, false)⟩,
     ⟨some 10, .p (.lenL), [.t 9], some (8, false)⟩,
     ⟨some 11, .p (.bin .gtr), [.t 10, .c (.int .i64 (.ofNat 8))], some (8, false)⟩,
     ⟨some 12, .p (.pick), [.t 8, .c (.bool true), .t 11], none⟩])
   (.cond (.t 12)
    (.seq (.region [
       ⟨some 2, .p (.mv), [.c (.bool false)], none⟩])
     (.ret))
    (.skip)))
  (.seq (.seq (.region [
      ⟨some 13, .p (.mv), [.t 0], none⟩,
      ⟨some 14, .p (.lenL), [.t 13], none⟩,
      ⟨some 15, .p (.mv), [.c (.int .i64 (.ofNat 0))], none⟩])
    (.block 0 (.loop (.seq (.region [
         ⟨some 16, .p (.bin .lss), [.t 15, .t 14], none⟩])
       (.seq (.cond (.t 16)
         (.skip)
         (.exit 0))
        (.seq (.block 1 (.seq (.region [
             ⟨some 17, .p (.mv), [.t 15], none⟩,
             ⟨some 18, .p (.iaddr 2), [.t 13, .t 15], none⟩,
             ⟨some 19, .l (.load (some 2)), [.t 18], none⟩,
             ⟨some 4, .i (.alloc [(1, .str []), (1, .str [])]), [], none⟩,
             ⟨some 3, .p (.mv), [.t 17], none⟩,
             ⟨none, .i (.store 2), [.t 4, .t 19], none⟩])
           (.seq (.draw (.q ⟨some 20, .p (.faddr 0), [.t 4], none⟩ (.q ⟨some 21, .l (.load none), [.t 20], none⟩ (.e ⟨some 22, .i (.call 53), [.t 21], none⟩ [] (.q ⟨some 23, .p (.un .not), [.t 22], none⟩ (.q ⟨some 24, .p (.mv), [.t 23], none⟩ (.q ⟨some 25, .p (.faddr 1), [.t 4], some (24, false)⟩ (.q ⟨some 26, .l (.load none), [.t 25], some (24, false)⟩ (.q ⟨some 27, .p (.lenS), [.t 26], some (24, false)⟩ (.q ⟨some 28, .p (.bin .lss), [.t 27, .c (.int .i64 (.ofNat 1))], some (24, false)⟩ (.q ⟨some 29, .p (.pick), [.t 24, .c (.bool true), .t 28], none⟩ (.q ⟨some 30, .p (.mv), [.t 29], none⟩ (.q ⟨some 31, .p (.faddr 1), [.t 4], some (30, false)⟩ (.q ⟨some 32, .l (.load none), [.t 31], some (30, false)⟩ (.q ⟨some 33, .p (.lenS), [.t 32], some (30, false)⟩ (.q ⟨some 34, .p (.bin .gtr), [.t 33, .c (.int .i64 (.ofNat 64))], some (30, false)⟩ (.q ⟨some 35, .p (.pick), [.t 30, .c (.bool true), .t 34], none⟩ (.q ⟨some 36, .p (.mv), [.t 35], none⟩ (.q ⟨some 37, .p (.mv), [.t 3], some (36, false)⟩ (.q ⟨some 38, .p (.bin .gtr), [.t 37, .c (.int .i64 (.ofNat 0))], some (36, false)⟩ (.q ⟨some 39, .p (.mv), [.t 38], some (36, false)⟩ (.q ⟨some 40, .p (.faddr 0), [.t 4], some (39, true)⟩ (.q ⟨some 41, .l (.load none), [.t 40], some (39, true)⟩ (.q ⟨some 42, .p (.mv), [.t 0], some (39, true)⟩ (.q ⟨some 43, .p (.mv), [.t 3], some (39, true)⟩ (.q ⟨some 44, .p (.bin .sub), [.t 43, .c (.int .i64 (.ofNat 1))], some (39, true)⟩ (.q ⟨some 45, .p (.iaddr 2), [.t 42, .t 44], some (39, true)⟩ (.q ⟨some 46, .p (.faddr 0), [.t 45], some (39, true)⟩ (.q ⟨some 47, .l (.load none), [.t 46], some (39, true)⟩ (.q ⟨some 48, .p (.bin .leq), [.t 41, .t 47], some (39, true)⟩ (.q ⟨some 49, .p (.pick), [.t 39, .t 48, .c (.bool false)], some (36, false)⟩ (.q ⟨some 50, .p (.pick), [.t 36, .c (.bool true), .t 49], none⟩ (.done)))))))))))))))))))))))))))))))))
            (.cond (.t 50)
             (.seq (.region [
                ⟨some 2, .p (.mv), [.c (.bool false)], none⟩])
              (.ret))
             (.skip)))))
         (.region [
           ⟨some 51, .p (.bin .add), [.t 15, .c (.int .i64 (.ofNat 1))], none⟩,
           ⟨some 15, .p (.mv), [.t 51], none⟩])))))))
   (.seq (.region [
      ⟨some 2, .p (.mv), [.c (.bool true)], none⟩])
    (.ret)))), 52, [.t 2]⟩

/- (*varve/engine.Engine).row -/
def a31 : AFunc := ⟨.seq (.region [
   ⟨some 3, .i (.box 8), [.t 1], none⟩,
   ⟨some 4, .p (.mv), [.c (.int .i64 (.ofNat 0))], none⟩])
 (.seq (.block 0 (.seq (.draw (.q ⟨some 6, .p (.faddr 1), [.t 3], none⟩ (.q ⟨some 7, .l (.load none), [.t 6], none⟩ (.q ⟨some 8, .p (.mv), [.t 0], none⟩ (.q ⟨some 9, .p (.nilchk), [.t 8], none⟩ (.q ⟨some 10, .p (.faddr 1), [.t 9], none⟩ (.q ⟨some 11, .l (.load (some 5)), [.t 10], none⟩ (.q ⟨some 12, .p (.mv), [.t 0], none⟩ (.q ⟨some 13, .p (.nilchk), [.t 12], none⟩ (.q ⟨some 14, .p (.faddr 6), [.t 13], none⟩ (.q ⟨some 15, .l (.load none), [.t 14], none⟩ (.e ⟨some 16, .i (.call 44), [.t 11, .t 15, .c (.int .i64 (.ofNat 0))], none⟩ [⟨some 7, .l (.load none), [.t 6], none⟩] (.q ⟨some 17, .p (.bin .lss), [.t 7, .t 16], none⟩ (.q ⟨some 5, .p (.mv), [.t 17], none⟩ (.done)))))))))))))))
    (.cond (.t 5)
     (.seq (.region [
        ⟨some 4, .p (.mv), [.c (.int .i64 (.ofNat 6))], none⟩])
      (.ret))
     (.seq (.draw (.q ⟨some 19, .p (.faddr 1), [.t 3], none⟩ (.q ⟨some 20, .l (.load none), [.t 19], none⟩ (.q ⟨some 21, .p (.mv), [.t 0], none⟩ (.q ⟨some 22, .p (.nilchk), [.t 21], none⟩ (.q ⟨some 23, .p (.faddr 6), [.t 22], none⟩ (.q ⟨some 24, .l (.load none), [.t 23], none⟩ (.q ⟨some 25, .p (.mv), [.t 0], none⟩ (.q ⟨some 26, .p (.nilchk), [.t 25], none⟩ (.q ⟨some 27, .p (.faddr 1), [.t 26], none⟩ (.q ⟨some 28, .p (.faddr 0), [.t 27], none⟩ (.q ⟨some 29, .l (.load none), [.t 28], none⟩ (.q ⟨some 30, .p (.bin .add), [.t 24, .t 29], none⟩ (.q ⟨some 31, .p (.bin .gtr), [.t 20, .t 30], none⟩ (.q ⟨some 32, .p (.mv), [.t 31], none⟩ (.q ⟨some 33, .p (.faddr 1), [.t 3], some (32, false)⟩ (.q ⟨some 34, .l (.load none), [.t 33], some (32, false)⟩ (.q ⟨some 35, .p (.bin .geq), [.t 34, .c (.int .i64 (.ofNat 1099511627776))], some (32, false)⟩ (.q ⟨some 36, .p (.pick), [.t 32, .c (.bool true), .t 35], none⟩ (.q ⟨some 18, .p (.mv), [.t 36], none⟩ (.done)))))))))))))))))))))
      (.cond (.t 18)
       (.seq (.region [
          ⟨some 4, .p (.mv), [.c (.int .i64 (.ofNat 7))], none⟩])
        (.ret))
       (.seq (.region [
          ⟨some 38, .p (.mv), [.t 0], none⟩,
          ⟨some 39, .p (.faddr 0), [.t 3], none⟩,
          ⟨some 40, .l (.load none), [.t 39], none⟩,
          ⟨some 41, .i (.call 54), [.t 38, .t 40], none⟩,
          ⟨some 37, .p (.mv), [.t 41], none⟩])
        (.cond (.t 37)
         (.seq (.region [
            ⟨some 4, .p (.mv), [.c (.int .i64 (.ofNat 10))], none⟩])
          (.ret))
         (.skip))))))))
  (.seq (.draw (.q ⟨some 42, .p (.mv), [.t 0], none⟩ (.q ⟨some 43, .p (.mv), [.t 0], none⟩ (.q ⟨some 44, .p (.nilchk), [.t 43], none⟩ (.q ⟨some 45, .p (.faddr 7), [.t 44], none⟩ (.q ⟨some 46, .l (.load none), [.t 45], none⟩ (.q ⟨some 47, .p (.nilchk), [.t 46], none⟩ (.q ⟨some 48, .p (.faddr 11), [.t 47], none⟩ (.q ⟨some 49, .l (.load none), [.t 48], none⟩ (.q ⟨some 50, .p (.bin .add), [.t 49, .c (.int .i64 (.ofNat 1))], none⟩ (.q ⟨some 51, .l (.load (some 8)), [.t 3], none⟩ (.e ⟨some 52, .i (.call 55), [.t 51], none⟩ [⟨some 46, .l (.load none), [.t 45], none⟩, ⟨some 49, .l (.load none), [.t 48], none⟩] (.q ⟨some 53, .p (.build [(1, .int .i64 (.ofNat 0)), (1, .int .i64 (.ofNat 0)), (1, .list .full 2 []), (1, .int .i64 (.ofNat 0)), (1, .list .full 2 []), (1, .list .full 1 []), (1, .int .u64 (.ofNat 0)), (1, .int .u64 (.ofNat 0)), (1, .int .u64 (.ofNat 0)), (1, .int .u64 (.ofNat 0)), (1, .int .i64 (.ofNat 0)), (1, .int .i64 (.ofNat 0)), (1, .str []), (1, .str []), (1, .list .full 1 []), (1, .list .full 5 []), (1, .int .i64 (.ofNat 0)), (1, .int .i64 (.ofNat 0))] [(0, 1), (1, 1), (2, 8)]), [.t 50, .c (.int .i64 (.ofNat 1)), .t 52], none⟩ (.e ⟨some 54, .i (.call 36), [.t 42, .t 53], none⟩ [] (.q ⟨some 4, .p (.mv), [.t 54], none⟩ (.done))))))))))))))))
   (.ret))), 55, [.t 4]⟩

/- varve/pair.Of -/
def a32 : AFunc := ⟨.seq (.region [
   ⟨some 2, .i (.alloc [(1, .list .full 2 []), (1, .list .full 1 []), (1, .int .u64 (.ofNat 0)), (1, .int .u64 (.ofNat 0)), (1, .int .u64 (.ofNat 0)), (1, .int .u64 (.ofNat 0))]), [], none⟩])
 (.seq (.region [
    ⟨some 8, .i (.call 56), [], none⟩,
    ⟨some 9, .i (.call 57), [], none⟩,
    ⟨some 10, .p (.build [(1, .int .u64 (.ofNat 0)), (1, .int .u64 (.ofNat 0)), (1, .int .u64 (.ofNat 0)), (1, .int .u64 (.ofNat 0))] []), [], none⟩,
    ⟨some 5, .i (.alloc [(1, .int .u64 (.ofNat 0)), (1, .int .u64 (.ofNat 0)), (1, .int .u64 (.ofNat 0)), (1, .int .u64 (.ofNat 0))]), [], none⟩,
    ⟨some 3, .p (.mv), [.t 8], none⟩,
    ⟨some 4, .p (.mv), [.t 9], none⟩,
    ⟨none, .i (.store 4), [.t 5, .t 10], none⟩])
  (.seq (.seq (.region [
      ⟨some 11, .p (.mv), [.t 0], none⟩,
      ⟨some 12, .p (.lenL), [.t 11], none⟩,
      ⟨some 13, .p (.mv), [.c (.int .i64 (.ofNat 0))], none⟩])
    (.block 0 (.loop (.seq (.region [
         ⟨some 14, .p (.bin .lss), [.t 13, .t 12], none⟩])
       (.seq (.cond (.t 14)
         (.skip)
         (.exit 0))
        (.seq (.block 1 (.seq (.region [
             ⟨some 15, .p (.iaddr 3), [.t 11, .t 13], none⟩,
             ⟨some 16, .l (.load (some 3)), [.t 15], none⟩,
             ⟨some 7, .i (.alloc [(1, .int .u64 (.ofNat 0)), (1, .str []), (1, .int .u64 (.ofNat 0))]), [], none⟩,
             ⟨none, .i (.store 3), [.t 7, .t 16], none⟩])
           (.seq (.region [
              ⟨some 17, .p (.mv), [.t 3], none⟩,
              ⟨some 18, .p (.faddr 0), [.t 7], none⟩,
              ⟨some 19, .l (.load none), [.t 18], none⟩,
              ⟨some 20, .i (.call 58), [.t 17, .t 19, .c (.int .u64 (.ofNat 1))], none⟩])
            (.seq (.region [
               ⟨some 21, .p (.mv), [.t 4], none⟩,
               ⟨some 22, .p (.faddr 1), [.t 7], none⟩,
               ⟨some 23, .l (.load none), [.t 22], none⟩,
               ⟨some 24, .i (.call 59), [.t 21, .t 23], none⟩])
             (.region [
               ⟨some 25, .l (.load (some 4)), [.t 5], none⟩,
               ⟨some 26, .p (.faddr 2), [.t 7], none⟩,
               ⟨some 27, .l (.load none), [.t 26], none⟩,
               ⟨some 28, .i (.call 60), [.t 25, .t 27], none⟩,
               ⟨none, .i (.store 4), [.t 5, .t 28], none⟩])))))
         (.region [
           ⟨some 29, .p (.bin .add), [.t 13, .c (.int .i64 (.ofNat 1))], none⟩,
           ⟨some 13, .p (.mv), [.t 29], none⟩])))))))
   (.seq (.draw (.q ⟨some 30, .p (.mv), [.t 3], none⟩ (.q ⟨some 32, .p (.mv), [.t 4], none⟩ (.q ⟨some 34, .l (.load (some 4)), [.t 5], none⟩ (.e ⟨some 31, .i (.call 61), [.t 30], none⟩ [⟨some 34, .l (.load (some 4)), [.t 5], none⟩] (.e ⟨some 33, .i (.call 62), [.t 32], none⟩ [⟨some 34, .l (.load (some 4)), [.t 5], none⟩] (.q ⟨some 35, .p (.build [(1, .list .full 2 []), (1, .list .full 1 []), (1, .int .u64 (.ofNat 0)), (1, .int .u64 (.ofNat 0)), (1, .int .u64 (.ofNat 0)), (1, .int .u64 (.ofNat 0))] [(0, 1), (1, 1), (2, 4)]), [.t 31, .t 33, .t 34], none⟩ (.e ⟨none, .i (.store 6), [.t 2, .t 35], none⟩ [] (.done)))))))))
    (.ret)))), 36, [.cell 2 (some 6)]⟩

/- varve/match.Check -/
def a34 : AFunc := ⟨.seq (.region [
   ⟨some 1, .i (.box 5), [.t 0], none⟩,
   ⟨some 2, .p (.mv), [.c (.bool false)], none⟩])
 (.seq (.region [
    ⟨some 4, .p (.build [(1, .int .i64 (.ofNat 0)), (1, .int .i64 (.ofNat 0))] [(0, 1), (1, 1)]), [.c (.int .i64 (.ofNat 64)), .c (.int .i64 (.ofNat 4096))], none⟩,
    ⟨some 5, .i (.box 2), [.t 4], none⟩,
    ⟨some 3, .p (.mv), [.t 5], none⟩])
  (.seq (.region [
     ⟨some 6, .p (.mv), [.t 3], none⟩,
     ⟨some 7, .l (.load (some 5)), [.t 1], none⟩,
     ⟨some 8, .i (.call 74), [.t 6, .t 7, .c (.int .i64 (.ofNat 1))], none⟩,
     ⟨some 2, .p (.mv), [.t 8], none⟩])
   (.ret))), 9, [.t 2]⟩

/- (*varve/engine.Engine).record -/
def a36 : AFunc := ⟨.seq (.region [
   ⟨some 2, .i (.box 1), [.t 0], none⟩,
   ⟨some 3, .i (.box 18), [.t 1], none⟩,
   ⟨some 4, .p (.mv), [.c (.int .i64 (.ofNat 0))], none⟩])
 (.seq (.region [
    ⟨some 6, .l (.load none), [.t 2], none⟩,
    ⟨some 7, .p (.mkf (.func 75) 0), [.t 2, .t 3], none⟩,
    ⟨some 8, .p (.bsl 1 1 false [(1, .nilf)] [(0, 1)]), [.t 7], none⟩,
    ⟨some 9, .i (.call 40), [.t 6, .t 8], none⟩,
    ⟨some 5, .p (.mv), [.t 9], none⟩])
  (.seq (.seq (.region [
      ⟨some 10, .p (.mv), [.t 5], none⟩,
      ⟨some 11, .p (.bin .eql), [.t 10, .c (.int .i64 (.ofNat 0))], none⟩])
    (.cond (.t 11)
     (.draw (.q ⟨some 12, .l (.load none), [.t 2], none⟩ (.q ⟨some 13, .p (.nilchk), [.t 12], none⟩ (.q ⟨some 14, .p (.faddr 7), [.t 13], none⟩ (.q ⟨some 15, .l (.load none), [.t 14], none⟩ (.q ⟨some 16, .l (.load (some 18)), [.t 3], none⟩ (.e ⟨some 17, .i (.call 77), [.t 15, .t 16], none⟩ [] (.done))))))))
     (.skip)))
   (.seq (.region [
      ⟨some 18, .p (.mv), [.t 5], none⟩,
      ⟨some 4, .p (.mv), [.t 18], none⟩])
    (.ret)))), 19, [.t 4]⟩

/- (*varve/load.State).Rows -/
def a37 : AFunc := ⟨.seq (.region [
   ⟨some 4, .i (.box 5), [.t 1], none⟩,
   ⟨some 6, .p (.mv), [.c (.list .full 8 [])], none⟩])
 (.seq (.region [
    ⟨some 7, .p (.mv), [.c (.list .full 8 [])], none⟩])
  (.seq (.seq (.region [
      ⟨some 11, .p (.mv), [.t 0], none⟩,
      ⟨some 12, .i (.call 27), [.t 11], none⟩,
      ⟨some 13, .p (.lenL), [.t 12], none⟩,
      ⟨some 14, .p (.mv), [.c (.int .i64 (.ofNat 0))], none⟩])
    (.block 0 (.loop (.seq (.region [
         ⟨some 15, .p (.bin .lss), [.t 14, .t 13], none⟩])
       (.seq (.cond (.t 15)
         (.skip)
         (.exit 0))
        (.seq (.block 1 (.seq (.region [
             ⟨some 16, .p (.iaddr 8), [.t 12, .t 14], none⟩,
             ⟨some 17, .l (.load (some 8)), [.t 16], none⟩,
             ⟨some 9, .i (.alloc [(1, .list .full 2 []), (1, .int .i64 (.ofNat 0)), (1, .list .full 2 []), (1, .list .full 1 []), (1, .int .u64 (.ofNat 0)), (1, .int .u64 (.ofNat 0)), (1, .int .u64 (.ofNat 0)), (1, .int .u64 (.ofNat 0))]), [], none⟩,
             ⟨none, .i (.store 8), [.t 9, .t 17], none⟩])
           (.seq (.region [
              ⟨some 18, .l (.load (some 5)), [.t 4], none⟩,
              ⟨some 19, .p (.mv), [.t 2], none⟩,
              ⟨some 20, .p (.faddr 1), [.t 9], none⟩,
              ⟨some 21, .l (.load none), [.t 20], none⟩,
              ⟨some 22, .p (.bin .quo), [.t 21, .c (.int .i64 (.ofNat 8640))], none⟩,
              ⟨some 23, .i (.call 78), [.t 18, .t 19, .t 22], none⟩,
              ⟨some 10, .p (.mv), [.t 23], none⟩])
            (.seq (.region [
               ⟨some 24, .p (.mv), [.t 10], none⟩,
               ⟨some 25, .p (.bin .neq), [.t 24, .c (.int .i64 (.ofNat 4))], none⟩])
             (.cond (.t 25)
              (.seq (.region [
                 ⟨some 26, .p (.faddr 1), [.t 9], none⟩,
                 ⟨some 27, .l (.load none), [.t 26], none⟩,
                 ⟨some 28, .p (.mv), [.t 10], none⟩,
                 ⟨some 29, .i (.call 79), [.t 27, .t 28], none⟩,
                 ⟨some 30, .p (.faddr 1), [.t 9], none⟩,
                 ⟨none, .i (.store 1), [.t 30, .t 29], none⟩])
               (.region [
                 ⟨some 31, .p (.mv), [.t 7], none⟩,
                 ⟨some 32, .l (.load (some 8)), [.t 9], none⟩,
                 ⟨some 33, .p (.bsl 8 1 true [(1, .list .full 2 []), (1, .int .i64 (.ofNat 0)), (1, .list .full 2 []), (1, .list .full 1 []), (1, .int .u64 (.ofNat 0)), (1, .int .u64 (.ofNat 0)), (1, .int .u64 (.ofNat 0)), (1, .int .u64 (.ofNat 0))] [(0, 8)]), [.t 32], none⟩,
                 ⟨some 34, .i (.append 8 112), [.t 31, .t 33], none⟩,
                 ⟨some 7, .p (.mv), [.t 34], none⟩]))
              (.skip))))))
         (.region [
           ⟨some 35, .p (.bin .add), [.t 14, .c (.int .i64 (.ofNat 1))], none⟩,
           ⟨some 14, .p (.mv), [.t 35], none⟩])))))))
   (.seq (.region [
      ⟨some 36, .p (.mv), [.t 7], none⟩,
      ⟨some 37, .i (.call 80), [.t 36], none⟩,
      ⟨some 6, .p (.mv), [.t 37], none⟩])
    (.ret)))), 38, [.t 6]⟩

/- varve/cal.Check -/
def a38 : AFunc := ⟨.seq (.region [
   ⟨some 1, .i (.box 5), [.t 0], none⟩,
   ⟨some 2, .p (.mv), [.c (.bool false)], none⟩])
 (.seq (.seq (.region [
     ⟨some 5, .p (.faddr 0), [.t 1], none⟩,
     ⟨some 6, .l (.load none), [.t 5], none⟩,
     ⟨some 7, .p (.bin .lss), [.t 6, .c (.int .i64 (.ofNat 0))], none⟩,
     ⟨some 8, .p (.mv), [.t 7], none⟩,
     ⟨some 9, .p (.faddr 0), [.t 1], some (8, false)⟩,
     ⟨some 10, .l (.load none), [.t 9], some (8, false)⟩,
     ⟨some 11, .p (.bin .gtr), [.t 10, .c (.int .i64 (.ofNat 8640000))], some (8, false)⟩,
     ⟨some 12, .p (.pick), [.t 8, .c (.bool true), .t 11], none⟩])
   (.cond (.t 12)
    (.seq (.region [
       ⟨some 2, .p (.mv), [.c (.bool false)], none⟩])
     (.ret))
    (.skip)))
  (.seq (.region [
     ⟨some 3, .p (.mv), [.c (.int .i64 (.ofNat 1))], none⟩])
   (.seq (.seq (.region [
       ⟨some 13, .p (.mv), [.c (.int .i64 (.ofNat 0))], none⟩])
     (.block 0 (.loop (.seq (.region [
          ⟨some 14, .p (.bin .lss), [.t 13, .c (.int .i64 (.ofNat 4))], none⟩])
        (.seq (.cond (.t 14)
          (.skip)
          (.exit 0))
         (.seq (.block 1 (.seq (.region [
              ⟨some 15, .p (.mv), [.t 13], none⟩,
              ⟨some 4, .p (.mv), [.t 15], none⟩])
            (.seq (.seq (.region [
                ⟨some 16, .p (.mv), [.t 4], none⟩,
                ⟨some 17, .p (.faddr 1), [.t 1], none⟩,
                ⟨some 18, .p (.iaddrA 4 1), [.t 17, .t 16], none⟩,
                ⟨some 19, .l (.load none), [.t 18], none⟩,
                ⟨some 20, .p (.mv), [.t 3], none⟩,
                ⟨some 21, .p (.bin .lss), [.t 19, .t 20], none⟩,
                ⟨some 22, .p (.mv), [.t 21], none⟩,
                ⟨some 23, .p (.mv), [.t 4], some (22, false)⟩,
                ⟨some 24, .p (.faddr 1), [.t 1], some (22, false)⟩,
                ⟨some 25, .p (.iaddrA 4 1), [.t 24, .t 23], some (22, false)⟩,
                ⟨some 26, .l (.load none), [.t 25], some (22, false)⟩,
                ⟨some 27, .p (.bin .gtr), [.t 26, .c (.int .i64 (.ofNat 100000))], some (22, false)⟩,
                ⟨some 28, .p (.pick), [.t 22, .c (.bool true), .t 27], none⟩])
              (.cond (.t 28)
               (.seq (.region [
                  ⟨some 2, .p (.mv), [.c (.bool false)], none⟩])
                (.ret))
               (.skip)))
             (.region [
               ⟨some 29, .p (.mv), [.t 4], none⟩,
               ⟨some 30, .p (.faddr 1), [.t 1], none⟩,
               ⟨some 31, .p (.iaddrA 4 1), [.t 30, .t 29], none⟩,
               ⟨some 32, .l (.load none), [.t 31], none⟩,
               ⟨some 3, .p (.mv), [.t 32], none⟩]))))
          (.region [
            ⟨some 33, .p (.bin .add), [.t 13, .c (.int .i64 (.ofNat 1))], none⟩,
            ⟨some 13, .p (.mv), [.t 33], none⟩])))))))
    (.seq (.region [
       ⟨some 2, .p (.mv), [.c (.bool true)], none⟩])
     (.ret))))), 34, [.t 2]⟩

/- varve/load.Read -/
def a39 : AFunc := ⟨.seq (.region [
   ⟨some 4, .p (.mv), [.c (.nilp)], none⟩,
   ⟨some 5, .p (.mv), [.c (.int .i64 (.ofNat 0))], none⟩])
 (.seq (.region [
    ⟨some 21, .p (.mv), [.t 0], none⟩,
    ⟨some 22, .i (.call 81), [.t 21], none⟩,
    ⟨some 20, .p (.mv), [.t 22], none⟩,
    ⟨some 23, .p (.ext 0), [.t 20], none⟩,
    ⟨some 24, .p (.ext 1), [.t 20], none⟩,
    ⟨some 6, .i (.alloc [(1, .int .i64 (.ofNat 0)), (1, .int .i64 (.ofNat 0)), (1, .int .i64 (.ofNat 0)), (1, .int .i64 (.ofNat 0)), (1, .list .full 7 []), (1, .list .full 8 [])]), [], none⟩,
    ⟨none, .i (.store 6), [.t 6, .t 23], none⟩,
    ⟨some 7, .p (.mv), [.t 24], none⟩])
  (.seq (.block 0 (.seq (.region [
       ⟨some 26, .p (.mv), [.t 7], none⟩,
       ⟨some 27, .p (.bin .eql), [.t 26, .c (.int .i64 (.ofNat 3))], none⟩,
       ⟨some 25, .p (.mv), [.t 27], none⟩])
     (.cond (.t 25)
      (.seq (.region [
         ⟨some 28, .p (.mv), [.t 0], none⟩,
         ⟨some 29, .p (.mv), [.t 1], none⟩,
         ⟨some 30, .i (.call 82), [.t 28, .t 29], none⟩,
         ⟨some 31, .p (.ext 0), [.t 30], none⟩,
         ⟨some 32, .p (.ext 1), [.t 30], none⟩,
         ⟨some 4, .p (.mv), [.t 31], none⟩,
         ⟨some 5, .p (.mv), [.t 32], none⟩])
       (.ret))
      (.seq (.region [
         ⟨some 34, .p (.mv), [.t 7], none⟩,
         ⟨some 35, .p (.bin .neq), [.t 34, .c (.int .i64 (.ofNat 0))], none⟩,
         ⟨some 36, .p (.mv), [.t 35], none⟩,
         ⟨some 37, .p (.faddr 0), [.t 6], some (36, false)⟩,
         ⟨some 38, .l (.load none), [.t 37], some (36, false)⟩,
         ⟨some 39, .p (.bin .gtr), [.t 38, .c (.int .i64 (.ofNat 549755813888))], some (36, false)⟩,
         ⟨some 40, .p (.pick), [.t 36, .c (.bool true), .t 39], none⟩,
         ⟨some 41, .p (.mv), [.t 40], none⟩,
         ⟨some 42, .p (.faddr 1), [.t 6], some (41, false)⟩,
         ⟨some 43, .l (.load none), [.t 42], some (41, false)⟩,
         ⟨some 44, .p (.bin .gtr), [.t 43, .c (.int .i64 (.ofNat 90000000))], some (41, false)⟩,
         ⟨some 45, .p (.pick), [.t 41, .c (.bool true), .t 44], none⟩,
         ⟨some 46, .p (.mv), [.t 45], none⟩,
         ⟨some 47, .p (.faddr 2), [.t 6], some (46, false)⟩,
         ⟨some 48, .l (.load none), [.t 47], some (46, false)⟩,
         ⟨some 49, .p (.bin .gtr), [.t 48, .c (.int .i64 (.ofNat 90000000))], some (46, false)⟩,
         ⟨some 50, .p (.pick), [.t 46, .c (.bool true), .t 49], none⟩,
         ⟨some 33, .p (.mv), [.t 50], none⟩])
       (.cond (.t 33)
        (.seq (.region [
           ⟨some 4, .p (.mv), [.c (.nilp)], none⟩,
           ⟨some 5, .p (.mv), [.c (.int .i64 (.ofNat 13))], none⟩])
         (.ret))
        (.skip))))))
   (.seq (.draw (.q ⟨some 51, .l (.load (some 6)), [.t 6], none⟩ (.q ⟨some 53, .p (.faddr 5), [.t 6], none⟩ (.q ⟨some 54, .l (.load none), [.t 53], none⟩ (.q ⟨some 55, .p (.faddr 0), [.t 6], none⟩ (.q ⟨some 56, .l (.load none), [.t 55], none⟩ (.e ⟨some 52, .i (.call 83), [], none⟩ [⟨some 51, .l (.load (some 6)), [.t 6], none⟩, ⟨some 54, .l (.load none), [.t 53], none⟩, ⟨some 56, .l (.load none), [.t 55], none⟩] (.q ⟨some 57, .p (.build [(1, .int .i64 (.ofNat 0)), (1, .int .i64 (.ofNat 0)), (1, .int .i64 (.ofNat 0)), (1, .int .i64 (.ofNat 0)), (1, .list .full 7 []), (1, .list .full 8 []), (1, .bool false), (1, .list .full 8 []), (1, .nilp), (1, .nilp), (1, .list .full 8 []), (1, .int .i64 (.ofNat 0))] [(0, 6), (9, 1), (10, 1), (11, 1)]), [.t 51, .t 52, .t 54, .t 56], none⟩ (.e ⟨some 58, .i (.box 12), [.t 57], none⟩ [] (.q ⟨some 8, .p (.mv), [.t 58], none⟩ (.done)))))))))))
    (.seq (.seq (.region [
        ⟨some 59, .p (.faddr 4), [.t 6], none⟩,
        ⟨some 60, .l (.load none), [.t 59], none⟩,
        ⟨some 61, .p (.lenL), [.t 60], none⟩,
        ⟨some 62, .p (.mv), [.c (.int .i64 (.ofNat 0))], none⟩])
      (.block 1 (.loop (.seq (.region [
           ⟨some 63, .p (.bin .lss), [.t 62, .t 61], none⟩])
         (.seq (.cond (.t 63)
           (.skip)
           (.exit 1))
          (.seq (.block 2 (.seq (.region [
               ⟨some 64, .p (.iaddr 7), [.t 60, .t 62], none⟩,
               ⟨some 65, .l (.load (some 7)), [.t 64], none⟩,
               ⟨some 10, .i (.alloc [(1, .int .i64 (.ofNat 0)), (1, .int .i64 (.ofNat 0)), (1, .int .i64 (.ofNat 0)), (1, .int .i64 (.ofNat 0)), (1, .int .i64 (.ofNat 0)), (1, .int .i64 (.ofNat 0)), (1, .int .i64 (.ofNat 0))]), [], none⟩,
               ⟨none, .i (.store 7), [.t 10, .t 65], none⟩])
             (.seq (.region [
                ⟨some 67, .p (.mv), [.t 0], none⟩,
                ⟨some 68, .p (.faddr 0), [.t 10], none⟩,
                ⟨some 69, .l (.load none), [.t 68], none⟩,
                ⟨some 70, .i (.call 85), [.t 69], none⟩,
                ⟨some 71, .i (.call 84), [.t 67, .t 70], none⟩,
                ⟨some 66, .p (.mv), [.t 71], none⟩,
                ⟨some 72, .p (.ext 0), [.t 66], none⟩,
                ⟨some 73, .p (.ext 1), [.t 66], none⟩,
                ⟨some 11, .p (.mv), [.t 72], none⟩,
                ⟨some 12, .p (.mv), [.t 73], none⟩])
              (.seq (.region [
                 ⟨some 75, .p (.mv), [.t 11], none⟩,
                 ⟨some 76, .i (.call 86), [.t 75], none⟩,
                 ⟨some 74, .p (.mv), [.t 76], none⟩,
                 ⟨some 77, .p (.ext 0), [.t 74], none⟩,
                 ⟨some 78, .p (.ext 1), [.t 74], none⟩,
                 ⟨some 79, .p (.ext 2), [.t 74], none⟩,
                 ⟨some 13, .i (.alloc [(1, .int .i64 (.ofNat 0)), (1, .int .i64 (.ofNat 0)), (1, .int .i64 (.ofNat 0)), (1, .int .i64 (.ofNat 0)), (1, .int .i64 (.ofNat 0)), (1, .int .i64 (.ofNat 0)), (1, .int .i64 (.ofNat 0))]), [], none⟩,
                 ⟨none, .i (.store 7), [.t 13, .t 77], none⟩,
                 ⟨some 14, .p (.mv), [.t 78], none⟩,
                 ⟨some 15, .p (.mv), [.t 79], none⟩])
               (.seq (.seq (.region [
                   ⟨some 80, .p (.mv), [.t 15], none⟩,
                   ⟨some 81, .p (.bin .neq), [.t 80, .c (.int .i64 (.ofNat 0))], none⟩,
                   ⟨some 82, .p (.mv), [.t 81], none⟩,
                   ⟨some 83, .l (.load (some 7)), [.t 13], some (82, false)⟩,
                   ⟨some 84, .l (.load (some 7)), [.t 10], some (82, false)⟩,
                   ⟨some 85, .p (.eqs [.i, .i, .i, .i, .i, .i, .i] true), [.t 83, .t 84], some (82, false)⟩,
                   ⟨some 86, .p (.pick), [.t 82, .c (.bool true), .t 85], none⟩])
                 (.cond (.t 86)
                  (.seq (.region [
                     ⟨some 4, .p (.mv), [.c (.nilp)], none⟩,
                     ⟨some 5, .p (.mv), [.c (.int .i64 (.ofNat 13))], none⟩])
                   (.ret))
                  (.skip)))
                (.draw (.q ⟨some 87, .p (.mv), [.t 8], none⟩ (.q ⟨some 88, .p (.mv), [.t 8], none⟩ (.q ⟨some 89, .p (.nilchk), [.t 88], none⟩ (.q ⟨some 90, .p (.faddr 7), [.t 89], none⟩ (.q ⟨some 91, .l (.load none), [.t 90], none⟩ (.q ⟨some 92, .l (.load (some 7)), [.t 13], none⟩ (.q ⟨some 93, .p (.mv), [.t 14], none⟩ (.q ⟨some 94, .p (.build [(1, .int .i64 (.ofNat 0)), (1, .int .i64 (.ofNat 0)), (1, .int .i64 (.ofNat 0)), (1, .int .i64 (.ofNat 0)), (1, .int .i64 (.ofNat 0)), (1, .int .i64 (.ofNat 0)), (1, .int .i64 (.ofNat 0)), (1, .list .full 8 [])] [(0, 7), (7, 1)]), [.t 92, .t 93], none⟩ (.q ⟨some 95, .p (.bsl 8 1 true [(1, .int .i64 (.ofNat 0)), (1, .int .i64 (.ofNat 0)), (1, .int .i64 (.ofNat 0)), (1, .int .i64 (.ofNat 0)), (1, .int .i64 (.ofNat 0)), (1, .int .i64 (.ofNat 0)), (1, .int .i64 (.ofNat 0)), (1, .list .full 8 [])] [(0, 8)]), [.t 94], none⟩ (.e ⟨some 96, .i (.append 8 80), [.t 91, .t 95], none⟩ [] (.q ⟨some 97, .p (.nilchk), [.t 87], none⟩ (.q ⟨some 98, .p (.faddr 7), [.t 97], none⟩ (.e ⟨none, .i (.store 1), [.t 98, .t 96], none⟩ [] (.done))))))))))))))))))))
           (.region [
             ⟨some 99, .p (.bin .add), [.t 62, .c (.int .i64 (.ofNat 1))], none⟩,
             ⟨some 62, .p (.mv), [.t 99], none⟩])))))))
     (.seq (.region [
        ⟨some 101, .p (.mv), [.t 0], none⟩,
        ⟨some 102, .p (.faddr 1), [.t 6], none⟩,
        ⟨some 103, .l (.load none), [.t 102], none⟩,
        ⟨some 104, .i (.call 87), [.t 101, .t 103], none⟩,
        ⟨some 100, .p (.mv), [.t 104], none⟩,
        ⟨some 105, .p (.ext 0), [.t 100], none⟩,
        ⟨some 106, .p (.ext 1), [.t 100], none⟩,
        ⟨some 107, .p (.ext 2), [.t 100], none⟩,
        ⟨some 16, .p (.mv), [.t 105], none⟩,
        ⟨some 17, .p (.mv), [.t 106], none⟩,
        ⟨some 7, .p (.mv), [.t 107], none⟩])
      (.seq (.seq (.region [
          ⟨some 108, .p (.mv), [.t 7], none⟩,
          ⟨some 109, .p (.bin .neq), [.t 108, .c (.int .i64 (.ofNat 0))], none⟩,
          ⟨some 110, .p (.mv), [.t 109], none⟩,
          ⟨some 111, .p (.mv), [.t 0], some (110, false)⟩,
          ⟨some 112, .i (.call 64), [.t 111], some (110, false)⟩,
          ⟨some 113, .i (.call 88), [.t 112, .c (.fn (.func 89) [] [])], some (110, false)⟩,
          ⟨some 114, .p (.mv), [.t 16], some (110, false)⟩,
          ⟨some 115, .i (.call 65), [.t 114], some (110, false)⟩,
          ⟨some 116, .p (.bin .add), [.t 115, .c (.int .i64 (.ofNat 1))], some (110, false)⟩,
          ⟨some 117, .p (.bin .gtr), [.t 113, .t 116], some (110, false)⟩,
          ⟨some 118, .p (.pick), [.t 110, .c (.bool true), .t 117], none⟩])
        (.cond (.t 118)
         (.seq (.region [
            ⟨some 4, .p (.mv), [.c (.nilp)], none⟩,
            ⟨some 5, .p (.mv), [.c (.int .i64 (.ofNat 13))], none⟩])
          (.ret))
         (.skip)))
       (.seq (.region [
          ⟨some 119, .p (.mv), [.t 8], none⟩,
          ⟨some 120, .p (.mv), [.t 16], none⟩,
          ⟨some 121, .p (.nilchk), [.t 119], none⟩,
          ⟨some 122, .p (.faddr 8), [.t 121], none⟩,
          ⟨none, .i (.store 1), [.t 122, .t 120], none⟩])
        (.seq (.seq (.region [
            ⟨some 123, .p (.mv), [.t 17], none⟩,
            ⟨some 124, .p (.lenL), [.t 123], none⟩,
            ⟨some 125, .p (.mv), [.c (.int .i64 (.ofNat 0))], none⟩])
          (.block 3 (.loop (.seq (.region [
               ⟨some 126, .p (.bin .lss), [.t 125, .t 124], none⟩])
             (.seq (.cond (.t 126)
               (.skip)
               (.exit 3))
              (.seq (.block 4 (.seq (.region [
                   ⟨some 127, .p (.iaddr 18), [.t 123, .t 125], none⟩,
                   ⟨some 128, .l (.load (some 18)), [.t 127], none⟩,
                   ⟨some 19, .i (.alloc [(1, .int .i64 (.ofNat 0)), (1, .int .i64 (.ofNat 0)), (1, .list .full 2 []), (1, .int .i64 (.ofNat 0)), (1, .list .full 2 []), (1, .list .full 1 []), (1, .int .u64 (.ofNat 0)), (1, .int .u64 (.ofNat 0)), (1, .int .u64 (.ofNat 0)), (1, .int .u64 (.ofNat 0)), (1, .int .i64 (.ofNat 0)), (1, .int .i64 (.ofNat 0)), (1, .str []), (1, .str []), (1, .list .full 1 []), (1, .list .full 5 []), (1, .int .i64 (.ofNat 0)), (1, .int .i64 (.ofNat 0))]), [], none⟩,
                   ⟨none, .i (.store 18), [.t 19, .t 128], none⟩])
                 (.seq (.draw (.q ⟨some 129, .p (.faddr 0), [.t 19], none⟩ (.q ⟨some 130, .l (.load none), [.t 129], none⟩ (.q ⟨some 131, .p (.mv), [.t 8], none⟩ (.q ⟨some 132, .p (.nilchk), [.t 131], none⟩ (.q ⟨some 133, .p (.faddr 11), [.t 132], none⟩ (.q ⟨some 134, .l (.load none), [.t 133], none⟩ (.q ⟨some 135, .p (.bin .add), [.t 134, .c (.int .i64 (.ofNat 1))], none⟩ (.q ⟨some 136, .p (.bin .neq), [.t 130, .t 135], none⟩ (.q ⟨some 137, .p (.mv), [.t 136], none⟩ (.q ⟨some 138, .p (.mv), [.t 8], some (137, false)⟩ (.q ⟨some 139, .l (.load (some 18)), [.t 19], some (137, false)⟩ (.e ⟨some 140, .i (.call 77), [.t 138, .t 139], some (137, false)⟩ [] (.q ⟨some 141, .p (.un .not), [.t 140], some (137, false)⟩ (.q ⟨some 142, .p (.pick), [.t 137, .c (.bool true), .t 141], none⟩ (.done))))))))))))))))
                  (.cond (.t 142)
                   (.seq (.region [
                      ⟨some 4, .p (.mv), [.c (.nilp)], none⟩,
                      ⟨some 5, .p (.mv), [.c (.int .i64 (.ofNat 13))], none⟩])
                    (.ret))
                   (.skip)))))
               (.region [
                 ⟨some 143, .p (.bin .add), [.t 125, .c (.int .i64 (.ofNat 1))], none⟩,
                 ⟨some 125, .p (.mv), [.t 143], none⟩])))))))
         (.seq (.region [
            ⟨some 144, .p (.mv), [.t 8], none⟩,
            ⟨some 4, .p (.mv), [.t 144], none⟩,
            ⟨some 5, .p (.mv), [.c (.int .i64 (.ofNat 0))], none⟩])
          (.ret)))))))))), 145, [.t 4, .t 5]⟩

/- (*varve/engine.Engine).writes, in parts -/
def l40 : List ROp := [⟨some 2, .i (.box 1), [.t 0], none⟩, ⟨some 4, .i (.alloc [(1, .int .i64 (.ofNat 0))]), [], none⟩]
def r40 : ROp := ⟨some 7, .p (.mkf (.func 90) 0), [.t 4, .t 2], none⟩
def k40 : ACode := .seq (.seq (.region [
    ⟨some 8, .p (.mv), [.t 1], none⟩,
    ⟨some 9, .p (.lenL), [.t 8], none⟩,
    ⟨some 10, .p (.mv), [.c (.int .i64 (.ofNat 0))], none⟩])
  (.block 0 (.loop (.seq (.region [
       ⟨some 11, .p (.bin .lss), [.t 10, .t 9], none⟩])
     (.seq (.cond (.t 11)
       (.skip)
       (.exit 0))
      (.seq (.block 1 (.seq (.region [
           ⟨some 12, .p (.iaddr 1), [.t 8, .t 10], none⟩,
           ⟨some 13, .l (.load none), [.t 12], none⟩,
           ⟨some 6, .p (.mv), [.t 13], none⟩])
         (.seq (.region [
            ⟨some 14, .p (.mv), [.t 6], none⟩,
            ⟨some 15, .i (.callv), [.t 14], none⟩,
            ⟨none, .i (.store 1), [.t 4, .t 15], none⟩])
          (.seq (.region [
             ⟨some 16, .l (.load none), [.t 4], none⟩,
             ⟨some 17, .p (.bin .neq), [.t 16, .c (.int .i64 (.ofNat 0))], none⟩])
           (.cond (.t 17)
            (.seq (.region [
               ⟨some 18, .l (.load none), [.t 4], none⟩,
               ⟨none, .i (.store 1), [.t 4, .t 18], none⟩])
             (.ret))
            (.skip))))))
       (.region [
         ⟨some 19, .p (.bin .add), [.t 10, .c (.int .i64 (.ofNat 1))], none⟩,
         ⟨some 10, .p (.mv), [.t 19], none⟩])))))))
 (.seq (.region [
    ⟨none, .i (.store 1), [.t 4, .c (.int .i64 (.ofNat 0))], none⟩])
  (.ret))
def e40 : List ARes := [.cell 4 none]

end Go.Am.Tab
