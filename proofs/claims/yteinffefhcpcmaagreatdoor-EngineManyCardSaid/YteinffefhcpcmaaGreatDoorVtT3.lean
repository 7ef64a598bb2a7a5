/- The functions' code as the abstract machine reads it: written by a program of this session. -/
import Derived.Test.YteinffefhcpcmaaGreatDoorAmA
set_option linter.unusedVariables false
set_option linter.unusedSimpArgs false
set_option linter.unusedSectionVars false
namespace Go.Am.Tab
open Go.Am
/- varve/label.Value -/
def a178 : AFunc := ⟨.seq (.region [
   ⟨some 4, .p (.mv), [.c (.str [])], none⟩])
 (.seq (.seq (.region [
     ⟨some 7, .p (.mv), [.t 0], none⟩,
     ⟨some 8, .p (.lenL), [.t 7], none⟩,
     ⟨some 9, .p (.mv), [.c (.int .i64 (.ofNat 0))], none⟩])
   (.block 0 (.loop (.seq (.region [
        ⟨some 10, .p (.bin .lss), [.t 9, .t 8], none⟩])
      (.seq (.cond (.t 10)
        (.skip)
        (.exit 0))
       (.seq (.block 1 (.seq (.region [
            ⟨some 11, .p (.iaddr 2), [.t 7, .t 9], none⟩,
            ⟨some 12, .l (.load (some 2)), [.t 11], none⟩,
            ⟨some 6, .i (.alloc [(1, .str []), (1, .str [])]), [], none⟩,
            ⟨none, .i (.store 2), [.t 6, .t 12], none⟩])
          (.seq (.region [
             ⟨some 13, .p (.faddr 0), [.t 6], none⟩,
             ⟨some 14, .l (.load none), [.t 13], none⟩,
             ⟨some 15, .p (.mv), [.t 1], none⟩,
             ⟨some 16, .p (.bin .eql), [.t 14, .t 15], none⟩])
           (.cond (.t 16)
            (.seq (.region [
               ⟨some 17, .p (.faddr 1), [.t 6], none⟩,
               ⟨some 18, .l (.load none), [.t 17], none⟩,
               ⟨some 4, .p (.mv), [.t 18], none⟩])
             (.ret))
            (.skip)))))
        (.region [
          ⟨some 19, .p (.bin .add), [.t 9, .c (.int .i64 (.ofNat 1))], none⟩,
          ⟨some 9, .p (.mv), [.t 19], none⟩])))))))
  (.seq (.region [
     ⟨some 4, .p (.mv), [.c (.str [])], none⟩])
   (.ret))), 20, [.t 4]⟩

/- slices.pdqsortCmpFunc[varve/api.Row] -/
def a180 : AFunc := ⟨.seq (.region [
   ⟨some 10, .p (.mv), [.c (.bool true)], none⟩])
 (.seq (.region [
    ⟨some 11, .p (.mv), [.c (.bool true)], none⟩])
  (.block 0 (.loop (.block 1 (.seq (.region [
        ⟨some 21, .p (.mv), [.t 2], none⟩,
        ⟨some 22, .p (.mv), [.t 1], none⟩,
        ⟨some 23, .p (.bin .sub), [.t 21, .t 22], none⟩,
        ⟨some 12, .p (.mv), [.t 23], none⟩])
      (.seq (.seq (.region [
          ⟨some 24, .p (.mv), [.t 12], none⟩,
          ⟨some 25, .p (.bin .leq), [.t 24, .c (.int .i64 (.ofNat 12))], none⟩])
        (.cond (.t 25)
         (.seq (.region [
            ⟨some 26, .p (.mv), [.t 0], none⟩,
            ⟨some 27, .p (.mv), [.t 1], none⟩,
            ⟨some 28, .p (.mv), [.t 2], none⟩,
            ⟨some 29, .p (.mv), [.t 4], none⟩,
            ⟨some 30, .i (.call 237), [.t 26, .t 27, .t 28, .t 29], none⟩])
          (.ret))
         (.skip)))
       (.seq (.seq (.region [
           ⟨some 31, .p (.mv), [.t 3], none⟩,
           ⟨some 32, .p (.bin .eql), [.t 31, .c (.int .i64 (.ofNat 0))], none⟩])
         (.cond (.t 32)
          (.seq (.region [
             ⟨some 33, .p (.mv), [.t 0], none⟩,
             ⟨some 34, .p (.mv), [.t 1], none⟩,
             ⟨some 35, .p (.mv), [.t 2], none⟩,
             ⟨some 36, .p (.mv), [.t 4], none⟩,
             ⟨some 37, .i (.call 238), [.t 33, .t 34, .t 35, .t 36], none⟩])
           (.ret))
          (.skip)))
        (.seq (.seq (.region [
            ⟨some 38, .p (.mv), [.t 10], none⟩,
            ⟨some 39, .p (.un .not), [.t 38], none⟩])
          (.cond (.t 39)
           (.seq (.region [
              ⟨some 40, .p (.mv), [.t 0], none⟩,
              ⟨some 41, .p (.mv), [.t 1], none⟩,
              ⟨some 42, .p (.mv), [.t 2], none⟩,
              ⟨some 43, .p (.mv), [.t 4], none⟩,
              ⟨some 44, .i (.call 239), [.t 40, .t 41, .t 42, .t 43], none⟩])
            (.region [
              ⟨some 45, .p (.mv), [.t 3], none⟩,
              ⟨some 46, .p (.bin .sub), [.t 45, .c (.int .i64 (.ofNat 1))], none⟩,
              ⟨some 3, .p (.mv), [.t 46], none⟩]))
           (.skip)))
         (.seq (.region [
            ⟨some 48, .p (.mv), [.t 0], none⟩,
            ⟨some 49, .p (.mv), [.t 1], none⟩,
            ⟨some 50, .p (.mv), [.t 2], none⟩,
            ⟨some 51, .p (.mv), [.t 4], none⟩,
            ⟨some 52, .i (.call 240), [.t 48, .t 49, .t 50, .t 51], none⟩,
            ⟨some 47, .p (.mv), [.t 52], none⟩,
            ⟨some 53, .p (.ext 0), [.t 47], none⟩,
            ⟨some 54, .p (.ext 1), [.t 47], none⟩,
            ⟨some 13, .p (.mv), [.t 53], none⟩,
            ⟨some 14, .p (.mv), [.t 54], none⟩])
          (.seq (.seq (.region [
              ⟨some 55, .p (.mv), [.t 14], none⟩,
              ⟨some 56, .p (.bin .eql), [.t 55, .c (.int .i64 (.ofNat 2))], none⟩])
            (.cond (.t 56)
             (.seq (.region [
                ⟨some 57, .p (.mv), [.t 0], none⟩,
                ⟨some 58, .p (.mv), [.t 1], none⟩,
                ⟨some 59, .p (.mv), [.t 2], none⟩,
                ⟨some 60, .p (.mv), [.t 4], none⟩,
                ⟨some 61, .i (.call 241), [.t 57, .t 58, .t 59, .t 60], none⟩])
              (.seq (.region [
                 ⟨some 62, .p (.mv), [.t 2], none⟩,
                 ⟨some 63, .p (.bin .sub), [.t 62, .c (.int .i64 (.ofNat 1))], none⟩,
                 ⟨some 64, .p (.mv), [.t 13], none⟩,
                 ⟨some 65, .p (.mv), [.t 1], none⟩,
                 ⟨some 66, .p (.bin .sub), [.t 64, .t 65], none⟩,
                 ⟨some 67, .p (.bin .sub), [.t 63, .t 66], none⟩,
                 ⟨some 13, .p (.mv), [.t 67], none⟩])
               (.region [
                 ⟨some 14, .p (.mv), [.c (.int .i64 (.ofNat 1))], none⟩])))
             (.skip)))
           (.seq (.seq (.region [
               ⟨some 68, .p (.mv), [.t 10], none⟩,
               ⟨some 69, .p (.mv), [.t 68], none⟩,
               ⟨some 70, .p (.mv), [.t 11], some (69, true)⟩,
               ⟨some 71, .p (.pick), [.t 69, .t 70, .c (.bool false)], none⟩,
               ⟨some 72, .p (.mv), [.t 71], none⟩,
               ⟨some 73, .p (.mv), [.t 14], some (72, true)⟩,
               ⟨some 74, .p (.bin .eql), [.t 73, .c (.int .i64 (.ofNat 1))], some (72, true)⟩,
               ⟨some 75, .p (.pick), [.t 72, .t 74, .c (.bool false)], none⟩])
             (.cond (.t 75)
              (.seq (.region [
                 ⟨some 76, .p (.mv), [.t 0], none⟩,
                 ⟨some 77, .p (.mv), [.t 1], none⟩,
                 ⟨some 78, .p (.mv), [.t 2], none⟩,
                 ⟨some 79, .p (.mv), [.t 4], none⟩,
                 ⟨some 80, .i (.call 242), [.t 76, .t 77, .t 78, .t 79], none⟩])
               (.cond (.t 80)
                (.ret)
                (.skip)))
              (.skip)))
            (.seq (.seq (.draw (.q ⟨some 81, .p (.mv), [.t 1], none⟩ (.q ⟨some 82, .p (.bin .gtr), [.t 81, .c (.int .i64 (.ofNat 0))], none⟩ (.q ⟨some 83, .p (.mv), [.t 82], none⟩ (.q ⟨some 84, .p (.mv), [.t 4], some (83, true)⟩ (.q ⟨some 85, .p (.mv), [.t 0], some (83, true)⟩ (.q ⟨some 86, .p (.mv), [.t 1], some (83, true)⟩ (.q ⟨some 87, .p (.bin .sub), [.t 86, .c (.int .i64 (.ofNat 1))], some (83, true)⟩ (.q ⟨some 88, .p (.iaddr 8), [.t 85, .t 87], some (83, true)⟩ (.q ⟨some 89, .l (.load (some 8)), [.t 88], some (83, true)⟩ (.q ⟨some 90, .p (.mv), [.t 0], some (83, true)⟩ (.q ⟨some 91, .p (.mv), [.t 13], some (83, true)⟩ (.q ⟨some 92, .p (.iaddr 8), [.t 90, .t 91], some (83, true)⟩ (.q ⟨some 93, .l (.load (some 8)), [.t 92], some (83, true)⟩ (.e ⟨some 94, .i (.callv), [.t 84, .t 89, .t 93], some (83, true)⟩ [] (.q ⟨some 95, .p (.bin .lss), [.t 94, .c (.int .i64 (.ofNat 0))], some (83, true)⟩ (.q ⟨some 96, .p (.un .not), [.t 95], some (83, true)⟩ (.q ⟨some 97, .p (.pick), [.t 83, .t 96, .c (.bool false)], none⟩ (.done)))))))))))))))))))
              (.cond (.t 97)
               (.seq (.region [
                  ⟨some 98, .p (.mv), [.t 0], none⟩,
                  ⟨some 99, .p (.mv), [.t 1], none⟩,
                  ⟨some 100, .p (.mv), [.t 2], none⟩,
                  ⟨some 101, .p (.mv), [.t 13], none⟩,
                  ⟨some 102, .p (.mv), [.t 4], none⟩,
                  ⟨some 103, .i (.call 243), [.t 98, .t 99, .t 100, .t 101, .t 102], none⟩,
                  ⟨some 15, .p (.mv), [.t 103], none⟩])
                (.seq (.region [
                   ⟨some 104, .p (.mv), [.t 15], none⟩,
                   ⟨some 1, .p (.mv), [.t 104], none⟩])
                 (.exit 1)))
               (.skip)))
             (.seq (.region [
                ⟨some 106, .p (.mv), [.t 0], none⟩,
                ⟨some 107, .p (.mv), [.t 1], none⟩,
                ⟨some 108, .p (.mv), [.t 2], none⟩,
                ⟨some 109, .p (.mv), [.t 13], none⟩,
                ⟨some 110, .p (.mv), [.t 4], none⟩,
                ⟨some 111, .i (.call 244), [.t 106, .t 107, .t 108, .t 109, .t 110], none⟩,
                ⟨some 105, .p (.mv), [.t 111], none⟩,
                ⟨some 112, .p (.ext 0), [.t 105], none⟩,
                ⟨some 113, .p (.ext 1), [.t 105], none⟩,
                ⟨some 16, .p (.mv), [.t 112], none⟩,
                ⟨some 17, .p (.mv), [.t 113], none⟩])
              (.seq (.region [
                 ⟨some 114, .p (.mv), [.t 17], none⟩,
                 ⟨some 11, .p (.mv), [.t 114], none⟩])
               (.seq (.region [
                  ⟨some 115, .p (.mv), [.t 16], none⟩,
                  ⟨some 116, .p (.mv), [.t 1], none⟩,
                  ⟨some 117, .p (.bin .sub), [.t 115, .t 116], none⟩,
                  ⟨some 118, .p (.mv), [.t 2], none⟩,
                  ⟨some 119, .p (.mv), [.t 16], none⟩,
                  ⟨some 120, .p (.bin .sub), [.t 118, .t 119], none⟩,
                  ⟨some 18, .p (.mv), [.t 117], none⟩,
                  ⟨some 19, .p (.mv), [.t 120], none⟩])
                (.seq (.region [
                   ⟨some 121, .p (.mv), [.t 12], none⟩,
                   ⟨some 122, .p (.bin .quo), [.t 121, .c (.int .i64 (.ofNat 8))], none⟩,
                   ⟨some 20, .p (.mv), [.t 122], none⟩])
                 (.seq (.region [
                    ⟨some 123, .p (.mv), [.t 18], none⟩,
                    ⟨some 124, .p (.mv), [.t 19], none⟩,
                    ⟨some 125, .p (.bin .lss), [.t 123, .t 124], none⟩])
                  (.cond (.t 125)
                   (.seq (.region [
                      ⟨some 126, .p (.mv), [.t 18], none⟩,
                      ⟨some 127, .p (.mv), [.t 20], none⟩,
                      ⟨some 128, .p (.bin .geq), [.t 126, .t 127], none⟩,
                      ⟨some 10, .p (.mv), [.t 128], none⟩])
                    (.seq (.region [
                       ⟨some 129, .p (.mv), [.t 0], none⟩,
                       ⟨some 130, .p (.mv), [.t 1], none⟩,
                       ⟨some 131, .p (.mv), [.t 16], none⟩,
                       ⟨some 132, .p (.mv), [.t 3], none⟩,
                       ⟨some 133, .p (.mv), [.t 4], none⟩,
                       ⟨some 134, .i (.call 180), [.t 129, .t 130, .t 131, .t 132, .t 133], none⟩])
                     (.region [
                       ⟨some 135, .p (.mv), [.t 16], none⟩,
                       ⟨some 136, .p (.bin .add), [.t 135, .c (.int .i64 (.ofNat 1))], none⟩,
                       ⟨some 1, .p (.mv), [.t 136], none⟩])))
                   (.seq (.region [
                      ⟨some 137, .p (.mv), [.t 19], none⟩,
                      ⟨some 138, .p (.mv), [.t 20], none⟩,
                      ⟨some 139, .p (.bin .geq), [.t 137, .t 138], none⟩,
                      ⟨some 10, .p (.mv), [.t 139], none⟩])
                    (.seq (.region [
                       ⟨some 140, .p (.mv), [.t 0], none⟩,
                       ⟨some 141, .p (.mv), [.t 16], none⟩,
                       ⟨some 142, .p (.bin .add), [.t 141, .c (.int .i64 (.ofNat 1))], none⟩,
                       ⟨some 143, .p (.mv), [.t 2], none⟩,
                       ⟨some 144, .p (.mv), [.t 3], none⟩,
                       ⟨some 145, .p (.mv), [.t 4], none⟩,
                       ⟨some 146, .i (.call 180), [.t 140, .t 142, .t 143, .t 144, .t 145], none⟩])
                     (.region [
                       ⟨some 147, .p (.mv), [.t 16], none⟩,
                       ⟨some 2, .p (.mv), [.t 147], none⟩]))))))))))))))))))))), 148, []⟩

/- math/bits.Len -/
def a181 : AFunc := ⟨.seq (.region [
   ⟨some 2, .p (.mv), [.c (.int .i64 (.ofNat 0))], none⟩])
 (.seq (.cond (.c (.bool false))
   (.seq (.region [
      ⟨some 3, .p (.mv), [.t 0], none⟩,
      ⟨some 4, .p (.convI .u32), [.t 3], none⟩,
      ⟨some 5, .i (.call 245), [.t 4], none⟩,
      ⟨some 2, .p (.mv), [.t 5], none⟩])
    (.ret))
   (.skip))
  (.seq (.region [
     ⟨some 6, .p (.mv), [.t 0], none⟩,
     ⟨some 7, .i (.call 192), [.t 6], none⟩,
     ⟨some 2, .p (.mv), [.t 7], none⟩])
   (.ret))), 8, [.t 2]⟩

/- varve/label.Cmp -/
def a182 : AFunc := ⟨.seq (.region [
   ⟨some 4, .p (.mv), [.c (.int .i64 (.ofNat 0))], none⟩])
 (.seq (.region [
    ⟨some 5, .p (.mv), [.t 0], none⟩,
    ⟨some 6, .p (.mv), [.t 1], none⟩,
    ⟨some 7, .i (.call 246), [.t 5, .t 6, .c (.fn (.func 247) [] [])], none⟩,
    ⟨some 4, .p (.mv), [.t 7], none⟩])
  (.ret)), 8, [.t 4]⟩

/- varve/flo.Less -/
def a185 : AFunc := ⟨.seq (.region [
   ⟨some 4, .p (.mv), [.c (.bool false)], none⟩])
 (.seq (.region [
    ⟨some 5, .p (.mv), [.t 0], none⟩,
    ⟨some 6, .i (.call 249), [.t 5], none⟩,
    ⟨some 7, .p (.bin .neq), [.t 6, .c (.int .i64 (.ofNat 4))], none⟩,
    ⟨some 8, .p (.mv), [.t 7], none⟩,
    ⟨some 9, .p (.mv), [.t 1], some (8, true)⟩,
    ⟨some 10, .i (.call 249), [.t 9], some (8, true)⟩,
    ⟨some 11, .p (.bin .neq), [.t 10, .c (.int .i64 (.ofNat 4))], some (8, true)⟩,
    ⟨some 12, .p (.pick), [.t 8, .t 11, .c (.bool false)], none⟩,
    ⟨some 13, .p (.mv), [.t 12], none⟩,
    ⟨some 14, .p (.mv), [.t 0], some (13, true)⟩,
    ⟨some 15, .i (.call 250), [.t 14], some (13, true)⟩,
    ⟨some 16, .p (.mv), [.t 1], some (13, true)⟩,
    ⟨some 17, .i (.call 250), [.t 16], some (13, true)⟩,
    ⟨some 18, .p (.bin .lss), [.t 15, .t 17], some (13, true)⟩,
    ⟨some 19, .p (.pick), [.t 13, .t 18, .c (.bool false)], none⟩,
    ⟨some 4, .p (.mv), [.t 19], none⟩])
  (.ret)), 20, [.t 4]⟩

/- (*varve/hist.Hist).upto -/
def a186 : AFunc := ⟨.seq (.region [
   ⟨some 4, .p (.mv), [.c (.int .u64 (.ofNat 0))], none⟩])
 (.seq (.region [
    ⟨some 5, .p (.mv), [.c (.int .u64 (.ofNat 0))], none⟩])
  (.seq (.seq (.region [
      ⟨some 8, .p (.mv), [.t 0], none⟩,
      ⟨some 9, .p (.isnil .ptr true), [.t 8], none⟩])
    (.cond (.t 9)
     (.seq (.region [
        ⟨some 10, .p (.mv), [.t 0], none⟩,
        ⟨some 11, .p (.nilchk), [.t 10], none⟩,
        ⟨some 12, .p (.faddr 0), [.t 11], none⟩,
        ⟨some 13, .p (.mv), [.t 1], none⟩,
        ⟨some 14, .p (.bin .add), [.t 13, .c (.int .i64 (.ofNat 1))], none⟩,
        ⟨some 15, .l (.slA 7424 1 false true false), [.t 12, .t 14], none⟩,
        ⟨some 16, .p (.lenL), [.t 15], none⟩,
        ⟨some 17, .p (.mv), [.c (.int .i64 (.ofNat 0))], none⟩])
      (.block 0 (.loop (.seq (.region [
           ⟨some 18, .p (.bin .lss), [.t 17, .t 16], none⟩])
         (.seq (.cond (.t 18)
           (.skip)
           (.exit 0))
          (.seq (.block 1 (.seq (.region [
               ⟨some 19, .p (.iaddr 1), [.t 15, .t 17], none⟩,
               ⟨some 20, .l (.load none), [.t 19], none⟩,
               ⟨some 7, .p (.mv), [.t 20], none⟩])
             (.region [
               ⟨some 21, .p (.mv), [.t 5], none⟩,
               ⟨some 22, .p (.mv), [.t 7], none⟩,
               ⟨some 23, .i (.call 125), [.t 21, .t 22], none⟩,
               ⟨some 5, .p (.mv), [.t 23], none⟩])))
           (.region [
             ⟨some 24, .p (.bin .add), [.t 17, .c (.int .i64 (.ofNat 1))], none⟩,
             ⟨some 17, .p (.mv), [.t 24], none⟩])))))))
     (.skip)))
   (.seq (.region [
      ⟨some 25, .p (.mv), [.t 5], none⟩,
      ⟨some 4, .p (.mv), [.t 25], none⟩])
    (.ret)))), 26, [.t 4]⟩

/- varve/label.Quoted -/
def a190 : AFunc := ⟨.seq (.region [
   ⟨some 2, .p (.mv), [.c (.str [])], none⟩])
 (.seq (.region [
    ⟨some 6, .p (.bsl 1 1 false [(1, .int .u8 (.ofNat 0))] [(0, 1)]), [.c (.int .u8 (.ofNat 34))], none⟩,
    ⟨some 3, .p (.mv), [.t 6], none⟩])
  (.seq (.seq (.region [
      ⟨some 7, .p (.mv), [.t 0], none⟩,
      ⟨some 8, .p (.lenS), [.t 7], none⟩,
      ⟨some 9, .p (.mv), [.c (.int .i64 (.ofNat 0))], none⟩])
    (.block 0 (.loop (.seq (.region [
         ⟨some 10, .p (.bin .lss), [.t 9, .t 8], none⟩])
       (.seq (.cond (.t 10)
         (.skip)
         (.exit 0))
        (.seq (.block 1 (.seq (.region [
             ⟨some 11, .p (.mv), [.t 9], none⟩,
             ⟨some 4, .p (.mv), [.t 11], none⟩])
           (.seq (.region [
              ⟨some 12, .p (.mv), [.t 0], none⟩,
              ⟨some 13, .p (.mv), [.t 4], none⟩,
              ⟨some 14, .p (.idxS), [.t 12, .t 13], none⟩,
              ⟨some 5, .p (.mv), [.t 14], none⟩])
            (.block 2 (.seq (.region [
                ⟨some 20, .p (.mv), [.t 5], none⟩,
                ⟨some 21, .p (.bin .eql), [.t 20, .c (.int .u8 (.ofNat 34))], none⟩,
                ⟨some 22, .p (.mv), [.t 21], none⟩,
                ⟨some 23, .p (.mv), [.t 5], some (22, false)⟩,
                ⟨some 24, .p (.bin .eql), [.t 23, .c (.int .u8 (.ofNat 92))], some (22, false)⟩,
                ⟨some 25, .p (.pick), [.t 22, .c (.bool true), .t 24], none⟩,
                ⟨some 19, .p (.mv), [.t 25], none⟩])
              (.cond (.t 19)
               (.region [
                 ⟨some 26, .p (.mv), [.t 3], none⟩,
                 ⟨some 27, .p (.mv), [.t 5], none⟩,
                 ⟨some 28, .p (.bsl 1 2 false [(1, .int .u8 (.ofNat 0))] [(0, 1), (1, 1)]), [.c (.int .u8 (.ofNat 92)), .t 27], none⟩,
                 ⟨some 29, .i (.append 1 1), [.t 26, .t 28], none⟩,
                 ⟨some 3, .p (.mv), [.t 29], none⟩])
               (.seq (.region [
                  ⟨some 31, .p (.mv), [.t 5], none⟩,
                  ⟨some 32, .p (.bin .lss), [.t 31, .c (.int .u8 (.ofNat 32))], none⟩,
                  ⟨some 33, .p (.mv), [.t 32], none⟩,
                  ⟨some 34, .p (.mv), [.t 5], some (33, false)⟩,
                  ⟨some 35, .p (.bin .geq), [.t 34, .c (.int .u8 (.ofNat 127))], some (33, false)⟩,
                  ⟨some 36, .p (.pick), [.t 33, .c (.bool true), .t 35], none⟩,
                  ⟨some 30, .p (.mv), [.t 36], none⟩])
                (.cond (.t 30)
                 (.draw (.q ⟨some 37, .p (.mv), [.t 3], none⟩ (.q ⟨some 38, .p (.mv), [.t 5], none⟩ (.q ⟨some 39, .p (.bin .shr), [.t 38, .c (.int .u64 (.ofNat 4))], none⟩ (.q ⟨some 40, .p (.idxS), [.c (.str [48, 49, 50, 51, 52, 53, 54, 55, 56, 57, 97, 98, 99, 100, 101, 102]), .t 39], none⟩ (.q ⟨some 41, .p (.mv), [.t 5], none⟩ (.q ⟨some 42, .p (.bin .and), [.t 41, .c (.int .u8 (.ofNat 15))], none⟩ (.q ⟨some 43, .p (.idxS), [.c (.str [48, 49, 50, 51, 52, 53, 54, 55, 56, 57, 97, 98, 99, 100, 101, 102]), .t 42], none⟩ (.q ⟨some 44, .p (.bsl 1 4 false [(1, .int .u8 (.ofNat 0))] [(0, 1), (1, 1), (2, 1), (3, 1)]), [.c (.int .u8 (.ofNat 92)), .c (.int .u8 (.ofNat 120)), .t 40, .t 43], none⟩ (.e ⟨some 45, .i (.append 1 1), [.t 37, .t 44], none⟩ [] (.e ⟨some 3, .p (.mv), [.t 45], none⟩ [] (.done))))))))))))
                 (.region [
                   ⟨some 15, .p (.mv), [.t 3], none⟩,
                   ⟨some 16, .p (.mv), [.t 5], none⟩,
                   ⟨some 17, .p (.bsl 1 1 false [(1, .int .u8 (.ofNat 0))] [(0, 1)]), [.t 16], none⟩,
                   ⟨some 18, .i (.append 1 1), [.t 15, .t 17], none⟩,
                   ⟨some 3, .p (.mv), [.t 18], none⟩])))))))))
         (.region [
           ⟨some 46, .p (.bin .add), [.t 9, .c (.int .i64 (.ofNat 1))], none⟩,
           ⟨some 9, .p (.mv), [.t 46], none⟩])))))))
   (.seq (.region [
      ⟨some 47, .p (.mv), [.t 3], none⟩,
      ⟨some 48, .p (.bsl 1 1 false [(1, .int .u8 (.ofNat 0))] [(0, 1)]), [.c (.int .u8 (.ofNat 34))], none⟩,
      ⟨some 49, .i (.append 1 1), [.t 47, .t 48], none⟩,
      ⟨some 50, .l (.convS), [.t 49], none⟩,
      ⟨some 2, .p (.mv), [.t 50], none⟩])
    (.ret)))), 51, [.t 2]⟩

/- math/bits.Len64 -/
def a192 : AFunc := ⟨.seq (.region [
   ⟨some 2, .p (.mv), [.c (.int .i64 (.ofNat 0))], none⟩])
 (.seq (.seq (.region [
     ⟨some 3, .p (.mv), [.t 0], none⟩,
     ⟨some 4, .p (.bin .geq), [.t 3, .c (.int .u64 (.ofNat 4294967296))], none⟩])
   (.cond (.t 4)
    (.seq (.region [
       ⟨some 5, .p (.mv), [.t 0], none⟩,
       ⟨some 6, .p (.bin .shr), [.t 5, .c (.int .u64 (.ofNat 32))], none⟩,
       ⟨some 0, .p (.mv), [.t 6], none⟩])
     (.region [
       ⟨some 2, .p (.mv), [.c (.int .i64 (.ofNat 32))], none⟩]))
    (.skip)))
  (.seq (.seq (.region [
      ⟨some 7, .p (.mv), [.t 0], none⟩,
      ⟨some 8, .p (.bin .geq), [.t 7, .c (.int .u64 (.ofNat 65536))], none⟩])
    (.cond (.t 8)
     (.seq (.region [
        ⟨some 9, .p (.mv), [.t 0], none⟩,
        ⟨some 10, .p (.bin .shr), [.t 9, .c (.int .u64 (.ofNat 16))], none⟩,
        ⟨some 0, .p (.mv), [.t 10], none⟩])
      (.region [
        ⟨some 11, .p (.mv), [.t 2], none⟩,
        ⟨some 12, .p (.bin .add), [.t 11, .c (.int .i64 (.ofNat 16))], none⟩,
        ⟨some 2, .p (.mv), [.t 12], none⟩]))
     (.skip)))
   (.seq (.seq (.region [
       ⟨some 13, .p (.mv), [.t 0], none⟩,
       ⟨some 14, .p (.bin .geq), [.t 13, .c (.int .u64 (.ofNat 256))], none⟩])
     (.cond (.t 14)
      (.seq (.region [
         ⟨some 15, .p (.mv), [.t 0], none⟩,
         ⟨some 16, .p (.bin .shr), [.t 15, .c (.int .u64 (.ofNat 8))], none⟩,
         ⟨some 0, .p (.mv), [.t 16], none⟩])
       (.region [
         ⟨some 17, .p (.mv), [.t 2], none⟩,
         ⟨some 18, .p (.bin .add), [.t 17, .c (.int .i64 (.ofNat 8))], none⟩,
         ⟨some 2, .p (.mv), [.t 18], none⟩]))
      (.skip)))
    (.seq (.region [
       ⟨some 19, .p (.mv), [.t 2], none⟩,
       ⟨some 20, .p (.mv), [.t 0], none⟩,
       ⟨some 21, .p (.convI .u8), [.t 20], none⟩,
       ⟨some 22, .p (.idxS), [.c (.str [0, 1, 2, 2, 3, 3, 3, 3, 4, 4, 4, 4, 4, 4, 4, 4, 5, 5, 5, 5, 5, 5, 5, 5, 5, 5, 5, 5, 5, 5, 5, 5, 6, 6, 6, 6, 6, 6, 6, 6, 6, 6, 6, 6, 6, 6, 6, 6, 6, 6, 6, 6, 6, 6, 6, 6, 6, 6, 6, 6, 6, 6, 6, 6, 7, 7, 7, 7, 7, 7, 7, 7, 7, 7, 7, 7, 7, 7, 7, 7, 7, 7, 7, 7, 7, 7, 7, 7, 7, 7, 7, 7, 7, 7, 7, 7, 7, 7, 7, 7, 7, 7, 7, 7, 7, 7, 7, 7, 7, 7, 7, 7, 7, 7, 7, 7, 7, 7, 7, 7, 7, 7, 7, 7, 7, 7, 7, 7, 8, 8, 8, 8, 8, 8, 8, 8, 8, 8, 8, 8, 8, 8, 8, 8, 8, 8, 8, 8, 8, 8, 8, 8, 8, 8, 8, 8, 8, 8, 8, 8, 8, 8, 8, 8, 8, 8, 8, 8, 8, 8, 8, 8, 8, 8, 8, 8, 8, 8, 8, 8, 8, 8, 8, 8, 8, 8, 8, 8, 8, 8, 8, 8, 8, 8, 8, 8, 8, 8, 8, 8, 8, 8, 8, 8, 8, 8, 8, 8, 8, 8, 8, 8, 8, 8, 8, 8, 8, 8, 8, 8, 8, 8, 8, 8, 8, 8, 8, 8, 8, 8, 8, 8, 8, 8, 8, 8, 8, 8, 8, 8, 8, 8, 8, 8, 8, 8, 8, 8, 8, 8, 8, 8, 8, 8, 8, 8]), .t 21], none⟩,
       ⟨some 23, .p (.convI .i64), [.t 22], none⟩,
       ⟨some 24, .p (.bin .add), [.t 19, .t 23], none⟩,
       ⟨some 2, .p (.mv), [.t 24], none⟩])
     (.ret))))), 25, [.t 2]⟩

/- varve/fnv.More -/
def a195 : AFunc := ⟨.seq (.region [
   ⟨some 4, .p (.mv), [.c (.int .u64 (.ofNat 0))], none⟩])
 (.seq (.seq (.region [
     ⟨some 6, .p (.mv), [.t 1], none⟩,
     ⟨some 7, .p (.lenS), [.t 6], none⟩,
     ⟨some 8, .p (.mv), [.c (.int .i64 (.ofNat 0))], none⟩])
   (.block 0 (.loop (.seq (.region [
        ⟨some 9, .p (.bin .lss), [.t 8, .t 7], none⟩])
      (.seq (.cond (.t 9)
        (.skip)
        (.exit 0))
       (.seq (.block 1 (.seq (.region [
            ⟨some 10, .p (.mv), [.t 8], none⟩,
            ⟨some 5, .p (.mv), [.t 10], none⟩])
          (.region [
            ⟨some 11, .p (.mv), [.t 0], none⟩,
            ⟨some 12, .p (.mv), [.t 1], none⟩,
            ⟨some 13, .p (.mv), [.t 5], none⟩,
            ⟨some 14, .p (.idxS), [.t 12, .t 13], none⟩,
            ⟨some 15, .p (.convI .u64), [.t 14], none⟩,
            ⟨some 16, .p (.bin .xor), [.t 11, .t 15], none⟩,
            ⟨some 17, .p (.bin .mul), [.t 16, .c (.int .u64 (.ofNat 1099511628211))], none⟩,
            ⟨some 0, .p (.mv), [.t 17], none⟩])))
        (.region [
          ⟨some 18, .p (.bin .add), [.t 8, .c (.int .i64 (.ofNat 1))], none⟩,
          ⟨some 8, .p (.mv), [.t 18], none⟩])))))))
  (.seq (.region [
     ⟨some 19, .p (.mv), [.t 0], none⟩,
     ⟨some 4, .p (.mv), [.t 19], none⟩])
   (.ret))), 20, [.t 4]⟩

/- math.IsNaN -/
def a196 : AFunc := ⟨.seq (.region [
   ⟨some 2, .p (.mv), [.c (.bool false)], none⟩])
 (.seq (.region [
    ⟨some 3, .p (.mv), [.t 0], none⟩,
    ⟨some 4, .p (.mv), [.t 0], none⟩,
    ⟨some 5, .p (.bin .neq), [.t 3, .t 4], none⟩,
    ⟨some 2, .p (.mv), [.t 5], none⟩])
  (.ret)), 6, [.t 2]⟩

/- slices.pdqsortOrdered[uint64] -/
def a198 : AFunc := ⟨.seq (.region [
   ⟨some 8, .p (.mv), [.c (.bool true)], none⟩])
 (.seq (.region [
    ⟨some 9, .p (.mv), [.c (.bool true)], none⟩])
  (.block 0 (.loop (.block 1 (.seq (.region [
        ⟨some 19, .p (.mv), [.t 2], none⟩,
        ⟨some 20, .p (.mv), [.t 1], none⟩,
        ⟨some 21, .p (.bin .sub), [.t 19, .t 20], none⟩,
        ⟨some 10, .p (.mv), [.t 21], none⟩])
      (.seq (.seq (.region [
          ⟨some 22, .p (.mv), [.t 10], none⟩,
          ⟨some 23, .p (.bin .leq), [.t 22, .c (.int .i64 (.ofNat 12))], none⟩])
        (.cond (.t 23)
         (.seq (.region [
            ⟨some 24, .p (.mv), [.t 0], none⟩,
            ⟨some 25, .p (.mv), [.t 1], none⟩,
            ⟨some 26, .p (.mv), [.t 2], none⟩,
            ⟨some 27, .i (.call 257), [.t 24, .t 25, .t 26], none⟩])
          (.ret))
         (.skip)))
       (.seq (.seq (.region [
           ⟨some 28, .p (.mv), [.t 3], none⟩,
           ⟨some 29, .p (.bin .eql), [.t 28, .c (.int .i64 (.ofNat 0))], none⟩])
         (.cond (.t 29)
          (.seq (.region [
             ⟨some 30, .p (.mv), [.t 0], none⟩,
             ⟨some 31, .p (.mv), [.t 1], none⟩,
             ⟨some 32, .p (.mv), [.t 2], none⟩,
             ⟨some 33, .i (.call 258), [.t 30, .t 31, .t 32], none⟩])
           (.ret))
          (.skip)))
        (.seq (.seq (.region [
            ⟨some 34, .p (.mv), [.t 8], none⟩,
            ⟨some 35, .p (.un .not), [.t 34], none⟩])
          (.cond (.t 35)
           (.seq (.region [
              ⟨some 36, .p (.mv), [.t 0], none⟩,
              ⟨some 37, .p (.mv), [.t 1], none⟩,
              ⟨some 38, .p (.mv), [.t 2], none⟩,
              ⟨some 39, .i (.call 259), [.t 36, .t 37, .t 38], none⟩])
            (.region [
              ⟨some 40, .p (.mv), [.t 3], none⟩,
              ⟨some 41, .p (.bin .sub), [.t 40, .c (.int .i64 (.ofNat 1))], none⟩,
              ⟨some 3, .p (.mv), [.t 41], none⟩]))
           (.skip)))
         (.seq (.region [
            ⟨some 43, .p (.mv), [.t 0], none⟩,
            ⟨some 44, .p (.mv), [.t 1], none⟩,
            ⟨some 45, .p (.mv), [.t 2], none⟩,
            ⟨some 46, .i (.call 260), [.t 43, .t 44, .t 45], none⟩,
            ⟨some 42, .p (.mv), [.t 46], none⟩,
            ⟨some 47, .p (.ext 0), [.t 42], none⟩,
            ⟨some 48, .p (.ext 1), [.t 42], none⟩,
            ⟨some 11, .p (.mv), [.t 47], none⟩,
            ⟨some 12, .p (.mv), [.t 48], none⟩])
          (.seq (.seq (.region [
              ⟨some 49, .p (.mv), [.t 12], none⟩,
              ⟨some 50, .p (.bin .eql), [.t 49, .c (.int .i64 (.ofNat 2))], none⟩])
            (.cond (.t 50)
             (.seq (.region [
                ⟨some 51, .p (.mv), [.t 0], none⟩,
                ⟨some 52, .p (.mv), [.t 1], none⟩,
                ⟨some 53, .p (.mv), [.t 2], none⟩,
                ⟨some 54, .i (.call 261), [.t 51, .t 52, .t 53], none⟩])
              (.seq (.region [
                 ⟨some 55, .p (.mv), [.t 2], none⟩,
                 ⟨some 56, .p (.bin .sub), [.t 55, .c (.int .i64 (.ofNat 1))], none⟩,
                 ⟨some 57, .p (.mv), [.t 11], none⟩,
                 ⟨some 58, .p (.mv), [.t 1], none⟩,
                 ⟨some 59, .p (.bin .sub), [.t 57, .t 58], none⟩,
                 ⟨some 60, .p (.bin .sub), [.t 56, .t 59], none⟩,
                 ⟨some 11, .p (.mv), [.t 60], none⟩])
               (.region [
                 ⟨some 12, .p (.mv), [.c (.int .i64 (.ofNat 1))], none⟩])))
             (.skip)))
           (.seq (.seq (.region [
               ⟨some 61, .p (.mv), [.t 8], none⟩,
               ⟨some 62, .p (.mv), [.t 61], none⟩,
               ⟨some 63, .p (.mv), [.t 9], some (62, true)⟩,
               ⟨some 64, .p (.pick), [.t 62, .t 63, .c (.bool false)], none⟩,
               ⟨some 65, .p (.mv), [.t 64], none⟩,
               ⟨some 66, .p (.mv), [.t 12], some (65, true)⟩,
               ⟨some 67, .p (.bin .eql), [.t 66, .c (.int .i64 (.ofNat 1))], some (65, true)⟩,
               ⟨some 68, .p (.pick), [.t 65, .t 67, .c (.bool false)], none⟩])
             (.cond (.t 68)
              (.seq (.region [
                 ⟨some 69, .p (.mv), [.t 0], none⟩,
                 ⟨some 70, .p (.mv), [.t 1], none⟩,
                 ⟨some 71, .p (.mv), [.t 2], none⟩,
                 ⟨some 72, .i (.call 262), [.t 69, .t 70, .t 71], none⟩])
               (.cond (.t 72)
                (.ret)
                (.skip)))
              (.skip)))
            (.seq (.seq (.draw (.q ⟨some 73, .p (.mv), [.t 1], none⟩ (.q ⟨some 74, .p (.bin .gtr), [.t 73, .c (.int .i64 (.ofNat 0))], none⟩ (.q ⟨some 75, .p (.mv), [.t 74], none⟩ (.q ⟨some 76, .p (.mv), [.t 0], some (75, true)⟩ (.q ⟨some 77, .p (.mv), [.t 1], some (75, true)⟩ (.q ⟨some 78, .p (.bin .sub), [.t 77, .c (.int .i64 (.ofNat 1))], some (75, true)⟩ (.q ⟨some 79, .p (.iaddr 1), [.t 76, .t 78], some (75, true)⟩ (.q ⟨some 80, .l (.load none), [.t 79], some (75, true)⟩ (.q ⟨some 81, .p (.mv), [.t 0], some (75, true)⟩ (.q ⟨some 82, .p (.mv), [.t 11], some (75, true)⟩ (.q ⟨some 83, .p (.iaddr 1), [.t 81, .t 82], some (75, true)⟩ (.q ⟨some 84, .l (.load none), [.t 83], some (75, true)⟩ (.e ⟨some 85, .i (.call 263), [.t 80, .t 84], some (75, true)⟩ [] (.q ⟨some 86, .p (.un .not), [.t 85], some (75, true)⟩ (.q ⟨some 87, .p (.pick), [.t 75, .t 86, .c (.bool false)], none⟩ (.done)))))))))))))))))
              (.cond (.t 87)
               (.seq (.region [
                  ⟨some 88, .p (.mv), [.t 0], none⟩,
                  ⟨some 89, .p (.mv), [.t 1], none⟩,
                  ⟨some 90, .p (.mv), [.t 2], none⟩,
                  ⟨some 91, .p (.mv), [.t 11], none⟩,
                  ⟨some 92, .i (.call 264), [.t 88, .t 89, .t 90, .t 91], none⟩,
                  ⟨some 13, .p (.mv), [.t 92], none⟩])
                (.seq (.region [
                   ⟨some 93, .p (.mv), [.t 13], none⟩,
                   ⟨some 1, .p (.mv), [.t 93], none⟩])
                 (.exit 1)))
               (.skip)))
             (.seq (.region [
                ⟨some 95, .p (.mv), [.t 0], none⟩,
                ⟨some 96, .p (.mv), [.t 1], none⟩,
                ⟨some 97, .p (.mv), [.t 2], none⟩,
                ⟨some 98, .p (.mv), [.t 11], none⟩,
                ⟨some 99, .i (.call 265), [.t 95, .t 96, .t 97, .t 98], none⟩,
                ⟨some 94, .p (.mv), [.t 99], none⟩,
                ⟨some 100, .p (.ext 0), [.t 94], none⟩,
                ⟨some 101, .p (.ext 1), [.t 94], none⟩,
                ⟨some 14, .p (.mv), [.t 100], none⟩,
                ⟨some 15, .p (.mv), [.t 101], none⟩])
              (.seq (.region [
                 ⟨some 102, .p (.mv), [.t 15], none⟩,
                 ⟨some 9, .p (.mv), [.t 102], none⟩])
               (.seq (.region [
                  ⟨some 103, .p (.mv), [.t 14], none⟩,
                  ⟨some 104, .p (.mv), [.t 1], none⟩,
                  ⟨some 105, .p (.bin .sub), [.t 103, .t 104], none⟩,
                  ⟨some 106, .p (.mv), [.t 2], none⟩,
                  ⟨some 107, .p (.mv), [.t 14], none⟩,
                  ⟨some 108, .p (.bin .sub), [.t 106, .t 107], none⟩,
                  ⟨some 16, .p (.mv), [.t 105], none⟩,
                  ⟨some 17, .p (.mv), [.t 108], none⟩])
                (.seq (.region [
                   ⟨some 109, .p (.mv), [.t 10], none⟩,
                   ⟨some 110, .p (.bin .quo), [.t 109, .c (.int .i64 (.ofNat 8))], none⟩,
                   ⟨some 18, .p (.mv), [.t 110], none⟩])
                 (.seq (.region [
                    ⟨some 111, .p (.mv), [.t 16], none⟩,
                    ⟨some 112, .p (.mv), [.t 17], none⟩,
                    ⟨some 113, .p (.bin .lss), [.t 111, .t 112], none⟩])
                  (.cond (.t 113)
                   (.seq (.region [
                      ⟨some 114, .p (.mv), [.t 16], none⟩,
                      ⟨some 115, .p (.mv), [.t 18], none⟩,
                      ⟨some 116, .p (.bin .geq), [.t 114, .t 115], none⟩,
                      ⟨some 8, .p (.mv), [.t 116], none⟩])
                    (.seq (.region [
                       ⟨some 117, .p (.mv), [.t 0], none⟩,
                       ⟨some 118, .p (.mv), [.t 1], none⟩,
                       ⟨some 119, .p (.mv), [.t 14], none⟩,
                       ⟨some 120, .p (.mv), [.t 3], none⟩,
                       ⟨some 121, .i (.call 198), [.t 117, .t 118, .t 119, .t 120], none⟩])
                     (.region [
                       ⟨some 122, .p (.mv), [.t 14], none⟩,
                       ⟨some 123, .p (.bin .add), [.t 122, .c (.int .i64 (.ofNat 1))], none⟩,
                       ⟨some 1, .p (.mv), [.t 123], none⟩])))
                   (.seq (.region [
                      ⟨some 124, .p (.mv), [.t 17], none⟩,
                      ⟨some 125, .p (.mv), [.t 18], none⟩,
                      ⟨some 126, .p (.bin .geq), [.t 124, .t 125], none⟩,
                      ⟨some 8, .p (.mv), [.t 126], none⟩])
                    (.seq (.region [
                       ⟨some 127, .p (.mv), [.t 0], none⟩,
                       ⟨some 128, .p (.mv), [.t 14], none⟩,
                       ⟨some 129, .p (.bin .add), [.t 128, .c (.int .i64 (.ofNat 1))], none⟩,
                       ⟨some 130, .p (.mv), [.t 2], none⟩,
                       ⟨some 131, .p (.mv), [.t 3], none⟩,
                       ⟨some 132, .i (.call 198), [.t 127, .t 129, .t 130, .t 131], none⟩])
                     (.region [
                       ⟨some 133, .p (.mv), [.t 14], none⟩,
                       ⟨some 2, .p (.mv), [.t 133], none⟩]))))))))))))))))))))), 134, []⟩

/- slices.pdqsortOrdered[string] -/
def a202 : AFunc := ⟨.seq (.region [
   ⟨some 8, .p (.mv), [.c (.bool true)], none⟩])
 (.seq (.region [
    ⟨some 9, .p (.mv), [.c (.bool true)], none⟩])
  (.block 0 (.loop (.block 1 (.seq (.region [
        ⟨some 19, .p (.mv), [.t 2], none⟩,
        ⟨some 20, .p (.mv), [.t 1], none⟩,
        ⟨some 21, .p (.bin .sub), [.t 19, .t 20], none⟩,
        ⟨some 10, .p (.mv), [.t 21], none⟩])
      (.seq (.seq (.region [
          ⟨some 22, .p (.mv), [.t 10], none⟩,
          ⟨some 23, .p (.bin .leq), [.t 22, .c (.int .i64 (.ofNat 12))], none⟩])
        (.cond (.t 23)
         (.seq (.region [
            ⟨some 24, .p (.mv), [.t 0], none⟩,
            ⟨some 25, .p (.mv), [.t 1], none⟩,
            ⟨some 26, .p (.mv), [.t 2], none⟩,
            ⟨some 27, .i (.call 268), [.t 24, .t 25, .t 26], none⟩])
          (.ret))
         (.skip)))
       (.seq (.seq (.region [
           ⟨some 28, .p (.mv), [.t 3], none⟩,
           ⟨some 29, .p (.bin .eql), [.t 28, .c (.int .i64 (.ofNat 0))], none⟩])
         (.cond (.t 29)
          (.seq (.region [
             ⟨some 30, .p (.mv), [.t 0], none⟩,
             ⟨some 31, .p (.mv), [.t 1], none⟩,
             ⟨some 32, .p (.mv), [.t 2], none⟩,
             ⟨some 33, .i (.call 269), [.t 30, .t 31, .t 32], none⟩])
           (.ret))
          (.skip)))
        (.seq (.seq (.region [
            ⟨some 34, .p (.mv), [.t 8], none⟩,
            ⟨some 35, .p (.un .not), [.t 34], none⟩])
          (.cond (.t 35)
           (.seq (.region [
              ⟨some 36, .p (.mv), [.t 0], none⟩,
              ⟨some 37, .p (.mv), [.t 1], none⟩,
              ⟨some 38, .p (.mv), [.t 2], none⟩,
              ⟨some 39, .i (.call 270), [.t 36, .t 37, .t 38], none⟩])
            (.region [
              ⟨some 40, .p (.mv), [.t 3], none⟩,
              ⟨some 41, .p (.bin .sub), [.t 40, .c (.int .i64 (.ofNat 1))], none⟩,
              ⟨some 3, .p (.mv), [.t 41], none⟩]))
           (.skip)))
         (.seq (.region [
            ⟨some 43, .p (.mv), [.t 0], none⟩,
            ⟨some 44, .p (.mv), [.t 1], none⟩,
            ⟨some 45, .p (.mv), [.t 2], none⟩,
            ⟨some 46, .i (.call 271), [.t 43, .t 44, .t 45], none⟩,
            ⟨some 42, .p (.mv), [.t 46], none⟩,
            ⟨some 47, .p (.ext 0), [.t 42], none⟩,
            ⟨some 48, .p (.ext 1), [.t 42], none⟩,
            ⟨some 11, .p (.mv), [.t 47], none⟩,
            ⟨some 12, .p (.mv), [.t 48], none⟩])
          (.seq (.seq (.region [
              ⟨some 49, .p (.mv), [.t 12], none⟩,
              ⟨some 50, .p (.bin .eql), [.t 49, .c (.int .i64 (.ofNat 2))], none⟩])
            (.cond (.t 50)
             (.seq (.region [
                ⟨some 51, .p (.mv), [.t 0], none⟩,
                ⟨some 52, .p (.mv), [.t 1], none⟩,
                ⟨some 53, .p (.mv), [.t 2], none⟩,
                ⟨some 54, .i (.call 272), [.t 51, .t 52, .t 53], none⟩])
              (.seq (.region [
                 ⟨some 55, .p (.mv), [.t 2], none⟩,
                 ⟨some 56, .p (.bin .sub), [.t 55, .c (.int .i64 (.ofNat 1))], none⟩,
                 ⟨some 57, .p (.mv), [.t 11], none⟩,
                 ⟨some 58, .p (.mv), [.t 1], none⟩,
                 ⟨some 59, .p (.bin .sub), [.t 57, .t 58], none⟩,
                 ⟨some 60, .p (.bin .sub), [.t 56, .t 59], none⟩,
                 ⟨some 11, .p (.mv), [.t 60], none⟩])
               (.region [
                 ⟨some 12, .p (.mv), [.c (.int .i64 (.ofNat 1))], none⟩])))
             (.skip)))
           (.seq (.seq (.region [
               ⟨some 61, .p (.mv), [.t 8], none⟩,
               ⟨some 62, .p (.mv), [.t 61], none⟩,
               ⟨some 63, .p (.mv), [.t 9], some (62, true)⟩,
               ⟨some 64, .p (.pick), [.t 62, .t 63, .c (.bool false)], none⟩,
               ⟨some 65, .p (.mv), [.t 64], none⟩,
               ⟨some 66, .p (.mv), [.t 12], some (65, true)⟩,
               ⟨some 67, .p (.bin .eql), [.t 66, .c (.int .i64 (.ofNat 1))], some (65, true)⟩,
               ⟨some 68, .p (.pick), [.t 65, .t 67, .c (.bool false)], none⟩])
             (.cond (.t 68)
              (.seq (.region [
                 ⟨some 69, .p (.mv), [.t 0], none⟩,
                 ⟨some 70, .p (.mv), [.t 1], none⟩,
                 ⟨some 71, .p (.mv), [.t 2], none⟩,
                 ⟨some 72, .i (.call 273), [.t 69, .t 70, .t 71], none⟩])
               (.cond (.t 72)
                (.ret)
                (.skip)))
              (.skip)))
            (.seq (.seq (.draw (.q ⟨some 73, .p (.mv), [.t 1], none⟩ (.q ⟨some 74, .p (.bin .gtr), [.t 73, .c (.int .i64 (.ofNat 0))], none⟩ (.q ⟨some 75, .p (.mv), [.t 74], none⟩ (.q ⟨some 76, .p (.mv), [.t 0], some (75, true)⟩ (.q ⟨some 77, .p (.mv), [.t 1], some (75, true)⟩ (.q ⟨some 78, .p (.bin .sub), [.t 77, .c (.int .i64 (.ofNat 1))], some (75, true)⟩ (.q ⟨some 79, .p (.iaddr 1), [.t 76, .t 78], some (75, true)⟩ (.q ⟨some 80, .l (.load none), [.t 79], some (75, true)⟩ (.q ⟨some 81, .p (.mv), [.t 0], some (75, true)⟩ (.q ⟨some 82, .p (.mv), [.t 11], some (75, true)⟩ (.q ⟨some 83, .p (.iaddr 1), [.t 81, .t 82], some (75, true)⟩ (.q ⟨some 84, .l (.load none), [.t 83], some (75, true)⟩ (.e ⟨some 85, .i (.call 274), [.t 80, .t 84], some (75, true)⟩ [] (.q ⟨some 86, .p (.un .not), [.t 85], some (75, true)⟩ (.q ⟨some 87, .p (.pick), [.t 75, .t 86, .c (.bool false)], none⟩ (.done)))))))))))))))))
              (.cond (.t 87)
               (.seq (.region [
                  ⟨some 88, .p (.mv), [.t 0], none⟩,
                  ⟨some 89, .p (.mv), [.t 1], none⟩,
                  ⟨some 90, .p (.mv), [.t 2], none⟩,
                  ⟨some 91, .p (.mv), [.t 11], none⟩,
                  ⟨some 92, .i (.call 275), [.t 88, .t 89, .t 90, .t 91], none⟩,
                  ⟨some 13, .p (.mv), [.t 92], none⟩])
                (.seq (.region [
                   ⟨some 93, .p (.mv), [.t 13], none⟩,
                   ⟨some 1, .p (.mv), [.t 93], none⟩])
                 (.exit 1)))
               (.skip)))
             (.seq (.region [
                ⟨some 95, .p (.mv), [.t 0], none⟩,
                ⟨some 96, .p (.mv), [.t 1], none⟩,
                ⟨some 97, .p (.mv), [.t 2], none⟩,
                ⟨some 98, .p (.mv), [.t 11], none⟩,
                ⟨some 99, .i (.call 276), [.t 95, .t 96, .t 97, .t 98], none⟩,
                ⟨some 94, .p (.mv), [.t 99], none⟩,
                ⟨some 100, .p (.ext 0), [.t 94], none⟩,
                ⟨some 101, .p (.ext 1), [.t 94], none⟩,
                ⟨some 14, .p (.mv), [.t 100], none⟩,
                ⟨some 15, .p (.mv), [.t 101], none⟩])
              (.seq (.region [
                 ⟨some 102, .p (.mv), [.t 15], none⟩,
                 ⟨some 9, .p (.mv), [.t 102], none⟩])
               (.seq (.region [
                  ⟨some 103, .p (.mv), [.t 14], none⟩,
                  ⟨some 104, .p (.mv), [.t 1], none⟩,
                  ⟨some 105, .p (.bin .sub), [.t 103, .t 104], none⟩,
                  ⟨some 106, .p (.mv), [.t 2], none⟩,
                  ⟨some 107, .p (.mv), [.t 14], none⟩,
                  ⟨some 108, .p (.bin .sub), [.t 106, .t 107], none⟩,
                  ⟨some 16, .p (.mv), [.t 105], none⟩,
                  ⟨some 17, .p (.mv), [.t 108], none⟩])
                (.seq (.region [
                   ⟨some 109, .p (.mv), [.t 10], none⟩,
                   ⟨some 110, .p (.bin .quo), [.t 109, .c (.int .i64 (.ofNat 8))], none⟩,
                   ⟨some 18, .p (.mv), [.t 110], none⟩])
                 (.seq (.region [
                    ⟨some 111, .p (.mv), [.t 16], none⟩,
                    ⟨some 112, .p (.mv), [.t 17], none⟩,
                    ⟨some 113, .p (.bin .lss), [.t 111, .t 112], none⟩])
                  (.cond (.t 113)
                   (.seq (.region [
                      ⟨some 114, .p (.mv), [.t 16], none⟩,
                      ⟨some 115, .p (.mv), [.t 18], none⟩,
                      ⟨some 116, .p (.bin .geq), [.t 114, .t 115], none⟩,
                      ⟨some 8, .p (.mv), [.t 116], none⟩])
                    (.seq (.region [
                       ⟨some 117, .p (.mv), [.t 0], none⟩,
                       ⟨some 118, .p (.mv), [.t 1], none⟩,
                       ⟨some 119, .p (.mv), [.t 14], none⟩,
                       ⟨some 120, .p (.mv), [.t 3], none⟩,
                       ⟨some 121, .i (.call 202), [.t 117, .t 118, .t 119, .t 120], none⟩])
                     (.region [
                       ⟨some 122, .p (.mv), [.t 14], none⟩,
                       ⟨some 123, .p (.bin .add), [.t 122, .c (.int .i64 (.ofNat 1))], none⟩,
                       ⟨some 1, .p (.mv), [.t 123], none⟩])))
                   (.seq (.region [
                      ⟨some 124, .p (.mv), [.t 17], none⟩,
                      ⟨some 125, .p (.mv), [.t 18], none⟩,
                      ⟨some 126, .p (.bin .geq), [.t 124, .t 125], none⟩,
                      ⟨some 8, .p (.mv), [.t 126], none⟩])
                    (.seq (.region [
                       ⟨some 127, .p (.mv), [.t 0], none⟩,
                       ⟨some 128, .p (.mv), [.t 14], none⟩,
                       ⟨some 129, .p (.bin .add), [.t 128, .c (.int .i64 (.ofNat 1))], none⟩,
                       ⟨some 130, .p (.mv), [.t 2], none⟩,
                       ⟨some 131, .p (.mv), [.t 3], none⟩,
                       ⟨some 132, .i (.call 202), [.t 127, .t 129, .t 130, .t 131], none⟩])
                     (.region [
                       ⟨some 133, .p (.mv), [.t 14], none⟩,
                       ⟨some 2, .p (.mv), [.t 133], none⟩]))))))))))))))))))))), 134, []⟩

/- varve/sum.Of -/
def a212 : AFunc := ⟨.seq (.region [
   ⟨some 2, .p (.mv), [.c (.int .u32 (.ofNat 0))], none⟩])
 (.seq (.region [
    ⟨some 3, .p (.mv), [.t 0], none⟩,
    ⟨some 4, .i (.call 279), [.c (.int .u32 (.ofNat 0)), .t 3], none⟩,
    ⟨some 2, .p (.mv), [.t 4], none⟩])
  (.ret)), 5, [.t 2]⟩

/- varve/pair.Put -/
def a213 : AFunc := ⟨.seq (.region [
   ⟨some 3, .i (.box 6), [.t 1], none⟩,
   ⟨some 4, .p (.mv), [.c (.list .full 1 [])], none⟩])
 (.seq (.draw (.q ⟨some 5, .p (.mv), [.t 0], none⟩ (.q ⟨some 6, .p (.faddr 0), [.t 3], none⟩ (.q ⟨some 7, .l (.load none), [.t 6], none⟩ (.q ⟨some 9, .p (.faddr 1), [.t 3], none⟩ (.q ⟨some 10, .l (.load none), [.t 9], none⟩ (.q ⟨some 12, .p (.faddr 2), [.t 3], none⟩ (.q ⟨some 13, .l (.load (some 4)), [.t 12], none⟩ (.e ⟨some 8, .i (.call 282), [.t 5, .t 7], none⟩ [⟨some 10, .l (.load none), [.t 9], none⟩, ⟨some 13, .l (.load (some 4)), [.t 12], none⟩] (.e ⟨some 11, .i (.call 281), [.t 8, .t 10], none⟩ [⟨some 13, .l (.load (some 4)), [.t 12], none⟩] (.e ⟨some 14, .i (.call 280), [.t 11, .t 13], none⟩ [] (.q ⟨some 4, .p (.mv), [.t 14], none⟩ (.done)))))))))))))
  (.ret)), 15, [.t 4]⟩

/- varve/label.Put -/
def a214 : AFunc := ⟨.seq (.region [
   ⟨some 4, .p (.mv), [.c (.list .full 1 [])], none⟩])
 (.seq (.region [
    ⟨some 7, .p (.mv), [.t 0], none⟩,
    ⟨some 8, .p (.mv), [.t 1], none⟩,
    ⟨some 9, .p (.lenL), [.t 8], none⟩,
    ⟨some 10, .p (.convI .u64), [.t 9], none⟩,
    ⟨some 11, .i (.call 171), [.t 7, .t 10], none⟩,
    ⟨some 0, .p (.mv), [.t 11], none⟩])
  (.seq (.seq (.region [
      ⟨some 12, .p (.mv), [.t 1], none⟩,
      ⟨some 13, .p (.lenL), [.t 12], none⟩,
      ⟨some 14, .p (.mv), [.c (.int .i64 (.ofNat 0))], none⟩])
    (.block 0 (.loop (.seq (.region [
         ⟨some 15, .p (.bin .lss), [.t 14, .t 13], none⟩])
       (.seq (.cond (.t 15)
         (.skip)
         (.exit 0))
        (.seq (.block 1 (.seq (.region [
             ⟨some 16, .p (.iaddr 2), [.t 12, .t 14], none⟩,
             ⟨some 17, .l (.load (some 2)), [.t 16], none⟩,
             ⟨some 6, .i (.alloc [(1, .str []), (1, .str [])]), [], none⟩,
             ⟨none, .i (.store 2), [.t 6, .t 17], none⟩])
           (.draw (.q ⟨some 18, .p (.mv), [.t 0], none⟩ (.q ⟨some 19, .p (.faddr 0), [.t 6], none⟩ (.q ⟨some 20, .l (.load none), [.t 19], none⟩ (.q ⟨some 22, .p (.faddr 1), [.t 6], none⟩ (.q ⟨some 23, .l (.load none), [.t 22], none⟩ (.e ⟨some 21, .i (.call 283), [.t 18, .t 20], none⟩ [⟨some 23, .l (.load none), [.t 22], none⟩] (.e ⟨some 24, .i (.call 283), [.t 21, .t 23], none⟩ [] (.e ⟨some 0, .p (.mv), [.t 24], none⟩ [] (.done))))))))))))
         (.region [
           ⟨some 25, .p (.bin .add), [.t 14, .c (.int .i64 (.ofNat 1))], none⟩,
           ⟨some 14, .p (.mv), [.t 25], none⟩])))))))
   (.seq (.region [
      ⟨some 26, .p (.mv), [.t 0], none⟩,
      ⟨some 4, .p (.mv), [.t 26], none⟩])
    (.ret)))), 27, [.t 4]⟩

/- strconv.Itoa -/
def a216 : AFunc := ⟨.seq (.region [
   ⟨some 2, .p (.mv), [.c (.str [])], none⟩])
 (.seq (.region [
    ⟨some 3, .p (.mv), [.t 0], none⟩,
    ⟨some 4, .i (.call 285), [.t 3], none⟩,
    ⟨some 2, .p (.mv), [.t 4], none⟩])
  (.ret)), 5, [.t 2]⟩

/- varve/pair.Merge -/
def a217 : AFunc := ⟨.seq (.region [
   ⟨some 2, .i (.box 6), [.t 0], none⟩,
   ⟨some 3, .i (.box 6), [.t 1], none⟩,
   ⟨some 4, .i (.alloc [(1, .list .full 2 []), (1, .list .full 1 []), (1, .int .u64 (.ofNat 0)), (1, .int .u64 (.ofNat 0)), (1, .int .u64 (.ofNat 0)), (1, .int .u64 (.ofNat 0))]), [], none⟩,
   ⟨some 5, .p (.mv), [.c (.int .i64 (.ofNat 0))], none⟩])
 (.seq (.region [
    ⟨some 6, .l (.load (some 6)), [.t 2], none⟩,
    ⟨some 7, .l (.load (some 6)), [.t 3], none⟩,
    ⟨some 8, .p (.bsl 6 2 true [(1, .list .full 2 []), (1, .list .full 1 []), (1, .int .u64 (.ofNat 0)), (1, .int .u64 (.ofNat 0)), (1, .int .u64 (.ofNat 0)), (1, .int .u64 (.ofNat 0))] [(0, 6), (6, 6)]), [.t 6, .t 7], none⟩,
    ⟨some 9, .i (.call 51), [.t 8], none⟩,
    ⟨some 10, .p (.ext 0), [.t 9], none⟩,
    ⟨some 11, .p (.ext 1), [.t 9], none⟩,
    ⟨none, .i (.store 6), [.t 4, .t 10], none⟩,
    ⟨some 5, .p (.mv), [.t 11], none⟩])
  (.ret)), 12, [.cell 4 (some 6), .t 5]⟩

/- slices.stableCmpFunc[varve/api.Row] -/
def a218 : AFunc := ⟨.seq (.region [
   ⟨some 6, .p (.mv), [.c (.int .i64 (.ofNat 20))], none⟩])
 (.seq (.region [
    ⟨some 10, .p (.mv), [.t 6], none⟩,
    ⟨some 7, .p (.mv), [.c (.int .i64 (.ofNat 0))], none⟩,
    ⟨some 8, .p (.mv), [.t 10], none⟩])
  (.seq (.block 0 (.loop (.seq (.seq (.region [
         ⟨some 11, .p (.mv), [.t 8], none⟩,
         ⟨some 12, .p (.mv), [.t 1], none⟩,
         ⟨some 13, .p (.bin .leq), [.t 11, .t 12], none⟩])
       (.cond (.t 13)
        (.skip)
        (.exit 0)))
      (.block 1 (.seq (.region [
          ⟨some 14, .p (.mv), [.t 0], none⟩,
          ⟨some 15, .p (.mv), [.t 7], none⟩,
          ⟨some 16, .p (.mv), [.t 8], none⟩,
          ⟨some 17, .p (.mv), [.t 2], none⟩,
          ⟨some 18, .i (.call 237), [.t 14, .t 15, .t 16, .t 17], none⟩])
        (.seq (.region [
           ⟨some 19, .p (.mv), [.t 8], none⟩,
           ⟨some 7, .p (.mv), [.t 19], none⟩])
         (.region [
           ⟨some 20, .p (.mv), [.t 8], none⟩,
           ⟨some 21, .p (.mv), [.t 6], none⟩,
           ⟨some 22, .p (.bin .add), [.t 20, .t 21], none⟩,
           ⟨some 8, .p (.mv), [.t 22], none⟩])))))))
   (.seq (.region [
      ⟨some 23, .p (.mv), [.t 0], none⟩,
      ⟨some 24, .p (.mv), [.t 7], none⟩,
      ⟨some 25, .p (.mv), [.t 1], none⟩,
      ⟨some 26, .p (.mv), [.t 2], none⟩,
      ⟨some 27, .i (.call 237), [.t 23, .t 24, .t 25, .t 26], none⟩])
    (.block 2 (.loop (.seq (.seq (.region [
          ⟨some 28, .p (.mv), [.t 6], none⟩,
          ⟨some 29, .p (.mv), [.t 1], none⟩,
          ⟨some 30, .p (.bin .lss), [.t 28, .t 29], none⟩])
        (.cond (.t 30)
         (.skip)
         (.exit 2)))
       (.block 3 (.seq (.region [
           ⟨some 31, .p (.mv), [.t 6], none⟩,
           ⟨some 32, .p (.bin .mul), [.c (.int .i64 (.ofNat 2)), .t 31], none⟩,
           ⟨some 7, .p (.mv), [.c (.int .i64 (.ofNat 0))], none⟩,
           ⟨some 8, .p (.mv), [.t 32], none⟩])
         (.seq (.block 4 (.loop (.seq (.seq (.region [
                ⟨some 33, .p (.mv), [.t 8], none⟩,
                ⟨some 34, .p (.mv), [.t 1], none⟩,
                ⟨some 35, .p (.bin .leq), [.t 33, .t 34], none⟩])
              (.cond (.t 35)
               (.skip)
               (.exit 4)))
             (.block 5 (.seq (.region [
                 ⟨some 36, .p (.mv), [.t 0], none⟩,
                 ⟨some 37, .p (.mv), [.t 7], none⟩,
                 ⟨some 38, .p (.mv), [.t 7], none⟩,
                 ⟨some 39, .p (.mv), [.t 6], none⟩,
                 ⟨some 40, .p (.bin .add), [.t 38, .t 39], none⟩,
                 ⟨some 41, .p (.mv), [.t 8], none⟩,
                 ⟨some 42, .p (.mv), [.t 2], none⟩,
                 ⟨some 43, .i (.call 286), [.t 36, .t 37, .t 40, .t 41, .t 42], none⟩])
               (.seq (.region [
                  ⟨some 44, .p (.mv), [.t 8], none⟩,
                  ⟨some 7, .p (.mv), [.t 44], none⟩])
                (.region [
                  ⟨some 45, .p (.mv), [.t 8], none⟩,
                  ⟨some 46, .p (.mv), [.t 6], none⟩,
                  ⟨some 47, .p (.bin .mul), [.c (.int .i64 (.ofNat 2)), .t 46], none⟩,
                  ⟨some 48, .p (.bin .add), [.t 45, .t 47], none⟩,
                  ⟨some 8, .p (.mv), [.t 48], none⟩])))))))
          (.seq (.seq (.region [
              ⟨some 49, .p (.mv), [.t 7], none⟩,
              ⟨some 50, .p (.mv), [.t 6], none⟩,
              ⟨some 51, .p (.bin .add), [.t 49, .t 50], none⟩,
              ⟨some 9, .p (.mv), [.t 51], none⟩])
            (.seq (.region [
               ⟨some 52, .p (.mv), [.t 9], none⟩,
               ⟨some 53, .p (.mv), [.t 1], none⟩,
               ⟨some 54, .p (.bin .lss), [.t 52, .t 53], none⟩])
             (.cond (.t 54)
              (.region [
                ⟨some 55, .p (.mv), [.t 0], none⟩,
                ⟨some 56, .p (.mv), [.t 7], none⟩,
                ⟨some 57, .p (.mv), [.t 9], none⟩,
                ⟨some 58, .p (.mv), [.t 1], none⟩,
                ⟨some 59, .p (.mv), [.t 2], none⟩,
                ⟨some 60, .i (.call 286), [.t 55, .t 56, .t 57, .t 58, .t 59], none⟩])
              (.skip))))
           (.region [
             ⟨some 61, .p (.mv), [.t 6], none⟩,
             ⟨some 62, .p (.bin .mul), [.t 61, .c (.int .i64 (.ofNat 2))], none⟩,
             ⟨some 6, .p (.mv), [.t 62], none⟩]))))))))))), 63, []⟩

/- varve/plain.Put -/
def a229 : AFunc := ⟨.seq (.region [
   ⟨some 4, .p (.mv), [.c (.list .full 1 [])], none⟩])
 (.seq (.region [
    ⟨some 7, .p (.mv), [.t 0], none⟩,
    ⟨some 8, .p (.mv), [.t 0], none⟩,
    ⟨some 9, .p (.lenL), [.t 8], none⟩,
    ⟨some 10, .p (.mv), [.t 0], none⟩,
    ⟨some 11, .p (.lenL), [.t 10], none⟩,
    ⟨some 12, .p (.slL 1 false true true), [.t 7, .t 9, .t 11], none⟩,
    ⟨some 0, .p (.mv), [.t 12], none⟩])
  (.seq (.seq (.region [
      ⟨some 13, .p (.mv), [.t 1], none⟩,
      ⟨some 14, .p (.lenL), [.t 13], none⟩,
      ⟨some 15, .p (.mv), [.c (.int .i64 (.ofNat 0))], none⟩])
    (.block 0 (.loop (.seq (.region [
         ⟨some 16, .p (.bin .lss), [.t 15, .t 14], none⟩])
       (.seq (.cond (.t 16)
         (.skip)
         (.exit 0))
        (.seq (.block 1 (.seq (.region [
             ⟨some 17, .p (.iaddr 1), [.t 13, .t 15], none⟩,
             ⟨some 18, .l (.load none), [.t 17], none⟩,
             ⟨some 6, .p (.mv), [.t 18], none⟩])
           (.region [
             ⟨some 19, .p (.mv), [.t 0], none⟩,
             ⟨some 20, .p (.mv), [.t 6], none⟩,
             ⟨some 21, .i (.call 171), [.c (.list .full 1 []), .t 20], none⟩,
             ⟨some 22, .i (.append 1 1), [.t 19, .t 21], none⟩,
             ⟨some 0, .p (.mv), [.t 22], none⟩])))
         (.region [
           ⟨some 23, .p (.bin .add), [.t 15, .c (.int .i64 (.ofNat 1))], none⟩,
           ⟨some 15, .p (.mv), [.t 23], none⟩])))))))
   (.seq (.region [
      ⟨some 24, .p (.mv), [.t 0], none⟩,
      ⟨some 4, .p (.mv), [.t 24], none⟩])
    (.ret)))), 25, [.t 4]⟩

/- varve/vint.put -/
def a234 : AFunc := ⟨.seq (.region [
   ⟨some 4, .p (.mv), [.c (.list .full 1 [])], none⟩])
 (.seq (.block 0 (.loop (.seq (.seq (.region [
        ⟨some 5, .p (.mv), [.t 1], none⟩,
        ⟨some 6, .p (.bin .geq), [.t 5, .c (.int .u64 (.ofNat 128))], none⟩])
      (.cond (.t 6)
       (.skip)
       (.exit 0)))
     (.block 1 (.seq (.region [
         ⟨some 7, .p (.mv), [.t 0], none⟩,
         ⟨some 8, .p (.mv), [.t 1], none⟩,
         ⟨some 9, .p (.convI .u8), [.t 8], none⟩,
         ⟨some 10, .p (.bin .or), [.t 9, .c (.int .u8 (.ofNat 128))], none⟩,
         ⟨some 11, .p (.bsl 1 1 false [(1, .int .u8 (.ofNat 0))] [(0, 1)]), [.t 10], none⟩,
         ⟨some 12, .i (.append 1 1), [.t 7, .t 11], none⟩,
         ⟨some 0, .p (.mv), [.t 12], none⟩])
       (.region [
         ⟨some 13, .p (.mv), [.t 1], none⟩,
         ⟨some 14, .p (.bin .shr), [.t 13, .c (.int .u64 (.ofNat 7))], none⟩,
         ⟨some 1, .p (.mv), [.t 14], none⟩]))))))
  (.seq (.region [
     ⟨some 15, .p (.mv), [.t 0], none⟩,
     ⟨some 16, .p (.mv), [.t 1], none⟩,
     ⟨some 17, .p (.convI .u8), [.t 16], none⟩,
     ⟨some 18, .p (.bsl 1 1 false [(1, .int .u8 (.ofNat 0))] [(0, 1)]), [.t 17], none⟩,
     ⟨some 19, .i (.append 1 1), [.t 15, .t 18], none⟩,
     ⟨some 4, .p (.mv), [.t 19], none⟩])
   (.ret))), 20, [.t 4]⟩

/- varve/vint.own -/
def a235 : AFunc := ⟨.seq (.region [
   ⟨some 2, .p (.mv), [.c (.list .full 1 [])], none⟩])
 (.seq (.region [
    ⟨some 3, .p (.mv), [.t 0], none⟩,
    ⟨some 4, .p (.mv), [.t 0], none⟩,
    ⟨some 5, .p (.lenL), [.t 4], none⟩,
    ⟨some 6, .p (.mv), [.t 0], none⟩,
    ⟨some 7, .p (.lenL), [.t 6], none⟩,
    ⟨some 8, .p (.slL 1 false true true), [.t 3, .t 5, .t 7], none⟩,
    ⟨some 2, .p (.mv), [.t 8], none⟩])
  (.ret)), 9, [.t 2]⟩

/- slices.insertionSortCmpFunc[varve/api.Row] -/
def a237 : AFunc := ⟨.seq (.region [
   ⟨some 10, .p (.mv), [.t 1], none⟩,
   ⟨some 11, .p (.bin .add), [.t 10, .c (.int .i64 (.ofNat 1))], none⟩,
   ⟨some 8, .p (.mv), [.t 11], none⟩])
 (.block 0 (.loop (.seq (.seq (.region [
       ⟨some 12, .p (.mv), [.t 8], none⟩,
       ⟨some 13, .p (.mv), [.t 2], none⟩,
       ⟨some 14, .p (.bin .lss), [.t 12, .t 13], none⟩])
     (.cond (.t 14)
      (.skip)
      (.exit 0)))
    (.seq (.block 1 (.seq (.region [
         ⟨some 17, .p (.mv), [.t 8], none⟩,
         ⟨some 9, .p (.mv), [.t 17], none⟩])
       (.block 2 (.loop (.seq (.seq (.draw (.q ⟨some 18, .p (.mv), [.t 9], none⟩ (.q ⟨some 19, .p (.mv), [.t 1], none⟩ (.q ⟨some 20, .p (.bin .gtr), [.t 18, .t 19], none⟩ (.q ⟨some 21, .p (.mv), [.t 20], none⟩ (.q ⟨some 22, .p (.mv), [.t 3], some (21, true)⟩ (.q ⟨some 23, .p (.mv), [.t 0], some (21, true)⟩ (.q ⟨some 24, .p (.mv), [.t 9], some (21, true)⟩ (.q ⟨some 25, .p (.iaddr 8), [.t 23, .t 24], some (21, true)⟩ (.q ⟨some 26, .l (.load (some 8)), [.t 25], some (21, true)⟩ (.q ⟨some 27, .p (.mv), [.t 0], some (21, true)⟩ (.q ⟨some 28, .p (.mv), [.t 9], some (21, true)⟩ (.q ⟨some 29, .p (.bin .sub), [.t 28, .c (.int .i64 (.ofNat 1))], some (21, true)⟩ (.q ⟨some 30, .p (.iaddr 8), [.t 27, .t 29], some (21, true)⟩ (.q ⟨some 31, .l (.load (some 8)), [.t 30], some (21, true)⟩ (.e ⟨some 32, .i (.callv), [.t 22, .t 26, .t 31], some (21, true)⟩ [] (.q ⟨some 33, .p (.bin .lss), [.t 32, .c (.int .i64 (.ofNat 0))], some (21, true)⟩ (.q ⟨some 34, .p (.pick), [.t 21, .t 33, .c (.bool false)], none⟩ (.done)))))))))))))))))))
           (.cond (.t 34)
            (.skip)
            (.exit 2)))
          (.seq (.block 3 (.draw (.q ⟨some 37, .p (.mv), [.t 0], none⟩ (.q ⟨some 38, .p (.mv), [.t 9], none⟩ (.q ⟨some 39, .p (.mv), [.t 0], none⟩ (.q ⟨some 40, .p (.mv), [.t 9], none⟩ (.q ⟨some 41, .p (.bin .sub), [.t 40, .c (.int .i64 (.ofNat 1))], none⟩ (.q ⟨some 42, .p (.mv), [.t 0], none⟩ (.q ⟨some 43, .p (.mv), [.t 9], none⟩ (.q ⟨some 44, .p (.bin .sub), [.t 43, .c (.int .i64 (.ofNat 1))], none⟩ (.q ⟨some 45, .p (.iaddr 8), [.t 42, .t 44], none⟩ (.q ⟨some 46, .l (.load (some 8)), [.t 45], none⟩ (.q ⟨some 47, .p (.mv), [.t 0], none⟩ (.q ⟨some 48, .p (.mv), [.t 9], none⟩ (.q ⟨some 49, .p (.iaddr 8), [.t 47, .t 48], none⟩ (.q ⟨some 50, .l (.load (some 8)), [.t 49], none⟩ (.q ⟨some 51, .p (.iaddr 8), [.t 37, .t 38], none⟩ (.e ⟨none, .i (.store 8), [.t 51, .t 46], none⟩ [] (.q ⟨some 52, .p (.iaddr 8), [.t 39, .t 41], none⟩ (.e ⟨none, .i (.store 8), [.t 52, .t 50], none⟩ [] (.done)))))))))))))))))))))
           (.region [
             ⟨some 35, .p (.mv), [.t 9], none⟩,
             ⟨some 36, .p (.bin .sub), [.t 35, .c (.int .i64 (.ofNat 1))], none⟩,
             ⟨some 9, .p (.mv), [.t 36], none⟩])))))))
     (.region [
       ⟨some 15, .p (.mv), [.t 8], none⟩,
       ⟨some 16, .p (.bin .add), [.t 15, .c (.int .i64 (.ofNat 1))], none⟩,
       ⟨some 8, .p (.mv), [.t 16], none⟩]))))), 53, []⟩

/- slices.CompareFunc[[]varve/api.Label,[]varve/api.Label,varve/api.Label,varve/api.Label] -/
def a246 : AFunc := ⟨.seq (.region [
   ⟨some 6, .p (.mv), [.c (.int .i64 (.ofNat 0))], none⟩])
 (.seq (.seq (.region [
     ⟨some 11, .p (.mv), [.t 0], none⟩,
     ⟨some 12, .p (.lenL), [.t 11], none⟩,
     ⟨some 13, .p (.mv), [.c (.int .i64 (.ofNat 0))], none⟩])
   (.block 0 (.loop (.seq (.region [
        ⟨some 14, .p (.bin .lss), [.t 13, .t 12], none⟩])
      (.seq (.cond (.t 14)
        (.skip)
        (.exit 0))
       (.seq (.block 1 (.seq (.region [
            ⟨some 15, .p (.mv), [.t 13], none⟩,
            ⟨some 16, .p (.iaddr 2), [.t 11, .t 13], none⟩,
            ⟨some 17, .l (.load (some 2)), [.t 16], none⟩,
            ⟨some 8, .i (.alloc [(1, .str []), (1, .str [])]), [], none⟩,
            ⟨some 7, .p (.mv), [.t 15], none⟩,
            ⟨none, .i (.store 2), [.t 8, .t 17], none⟩])
          (.seq (.seq (.region [
              ⟨some 18, .p (.mv), [.t 7], none⟩,
              ⟨some 19, .p (.mv), [.t 1], none⟩,
              ⟨some 20, .p (.lenL), [.t 19], none⟩,
              ⟨some 21, .p (.bin .geq), [.t 18, .t 20], none⟩])
            (.cond (.t 21)
             (.seq (.region [
                ⟨some 6, .p (.mv), [.c (.int .i64 (.ofNat 1))], none⟩])
              (.ret))
             (.skip)))
           (.seq (.region [
              ⟨some 22, .p (.mv), [.t 1], none⟩,
              ⟨some 23, .p (.mv), [.t 7], none⟩,
              ⟨some 24, .p (.iaddr 2), [.t 22, .t 23], none⟩,
              ⟨some 25, .l (.load (some 2)), [.t 24], none⟩,
              ⟨some 9, .i (.alloc [(1, .str []), (1, .str [])]), [], none⟩,
              ⟨none, .i (.store 2), [.t 9, .t 25], none⟩])
            (.seq (.region [
               ⟨some 26, .p (.mv), [.t 2], none⟩,
               ⟨some 27, .l (.load (some 2)), [.t 8], none⟩,
               ⟨some 28, .l (.load (some 2)), [.t 9], none⟩,
               ⟨some 29, .i (.callv), [.t 26, .t 27, .t 28], none⟩,
               ⟨some 10, .p (.mv), [.t 29], none⟩])
             (.seq (.region [
                ⟨some 30, .p (.mv), [.t 10], none⟩,
                ⟨some 31, .p (.bin .neq), [.t 30, .c (.int .i64 (.ofNat 0))], none⟩])
              (.cond (.t 31)
               (.seq (.region [
                  ⟨some 32, .p (.mv), [.t 10], none⟩,
                  ⟨some 6, .p (.mv), [.t 32], none⟩])
                (.ret))
               (.skip))))))))
        (.region [
          ⟨some 33, .p (.bin .add), [.t 13, .c (.int .i64 (.ofNat 1))], none⟩,
          ⟨some 13, .p (.mv), [.t 33], none⟩])))))))
  (.seq (.seq (.region [
      ⟨some 34, .p (.mv), [.t 0], none⟩,
      ⟨some 35, .p (.lenL), [.t 34], none⟩,
      ⟨some 36, .p (.mv), [.t 1], none⟩,
      ⟨some 37, .p (.lenL), [.t 36], none⟩,
      ⟨some 38, .p (.bin .lss), [.t 35, .t 37], none⟩])
    (.cond (.t 38)
     (.seq (.region [
        ⟨some 6, .p (.mv), [.c (.int .i64 (.negSucc 0))], none⟩])
      (.ret))
     (.skip)))
   (.seq (.region [
      ⟨some 6, .p (.mv), [.c (.int .i64 (.ofNat 0))], none⟩])
    (.ret)))), 39, [.t 6]⟩

/- varve/label.Cmp$1 -/
def a247 : AFunc := ⟨.seq (.region [
   ⟨some 2, .i (.box 2), [.t 0], none⟩,
   ⟨some 3, .i (.box 2), [.t 1], none⟩,
   ⟨some 4, .p (.mv), [.c (.int .i64 (.ofNat 0))], none⟩])
 (.seq (.seq (.region [
     ⟨some 6, .p (.faddr 0), [.t 2], none⟩,
     ⟨some 7, .l (.load none), [.t 6], none⟩,
     ⟨some 8, .p (.faddr 0), [.t 3], none⟩,
     ⟨some 9, .l (.load none), [.t 8], none⟩,
     ⟨some 10, .i (.call 248), [.t 7, .t 9], none⟩,
     ⟨some 5, .p (.mv), [.t 10], none⟩])
   (.seq (.region [
      ⟨some 11, .p (.mv), [.t 5], none⟩,
      ⟨some 12, .p (.bin .neq), [.t 11, .c (.int .i64 (.ofNat 0))], none⟩])
    (.cond (.t 12)
     (.seq (.region [
        ⟨some 13, .p (.mv), [.t 5], none⟩,
        ⟨some 4, .p (.mv), [.t 13], none⟩])
      (.ret))
     (.skip))))
  (.seq (.region [
     ⟨some 14, .p (.faddr 1), [.t 2], none⟩,
     ⟨some 15, .l (.load none), [.t 14], none⟩,
     ⟨some 16, .p (.faddr 1), [.t 3], none⟩,
     ⟨some 17, .l (.load none), [.t 16], none⟩,
     ⟨some 18, .i (.call 248), [.t 15, .t 17], none⟩,
     ⟨some 4, .p (.mv), [.t 18], none⟩])
   (.ret))), 19, [.t 4]⟩

/- strings.Compare -/
def a248 : AFunc := ⟨.seq (.region [
   ⟨some 4, .p (.mv), [.c (.int .i64 (.ofNat 0))], none⟩])
 (.seq (.region [
    ⟨some 5, .p (.mv), [.t 0], none⟩,
    ⟨some 6, .p (.mv), [.t 1], none⟩,
    ⟨some 7, .i (.call 303), [.t 5, .t 6], none⟩,
    ⟨some 4, .p (.mv), [.t 7], none⟩])
  (.ret)), 8, [.t 4]⟩

/- varve/flo.Kind -/
def a249 : AFunc := ⟨.seq (.region [
   ⟨some 2, .p (.mv), [.c (.int .i64 (.ofNat 0))], none⟩])
 (.seq (.region [
    ⟨some 6, .p (.mv), [.t 0], none⟩,
    ⟨some 7, .i (.call 304), [.t 6], none⟩,
    ⟨some 5, .p (.mv), [.t 7], none⟩,
    ⟨some 8, .p (.ext 0), [.t 5], none⟩,
    ⟨some 9, .p (.ext 1), [.t 5], none⟩,
    ⟨some 3, .p (.mv), [.t 8], none⟩,
    ⟨some 4, .p (.mv), [.t 9], none⟩])
  (.seq (.block 0 (.seq (.region [
       ⟨some 11, .p (.mv), [.t 0], none⟩,
       ⟨some 12, .p (.f64from), [.t 11], none⟩,
       ⟨some 13, .i (.call 196), [.t 12], none⟩,
       ⟨some 10, .p (.mv), [.t 13], none⟩])
     (.cond (.t 10)
      (.seq (.region [
         ⟨some 2, .p (.mv), [.c (.int .i64 (.ofNat 4))], none⟩])
       (.ret))
      (.seq (.region [
         ⟨some 15, .p (.mv), [.t 3], none⟩,
         ⟨some 16, .p (.bin .eql), [.t 15, .c (.int .i64 (.ofNat 2047))], none⟩,
         ⟨some 14, .p (.mv), [.t 16], none⟩])
       (.cond (.t 14)
        (.seq (.region [
           ⟨some 2, .p (.mv), [.c (.int .i64 (.ofNat 3))], none⟩])
         (.ret))
        (.seq (.region [
           ⟨some 18, .p (.mv), [.t 3], none⟩,
           ⟨some 19, .p (.bin .gtr), [.t 18, .c (.int .i64 (.ofNat 0))], none⟩,
           ⟨some 17, .p (.mv), [.t 19], none⟩])
         (.cond (.t 17)
          (.seq (.region [
             ⟨some 2, .p (.mv), [.c (.int .i64 (.ofNat 1))], none⟩])
           (.ret))
          (.seq (.region [
             ⟨some 21, .p (.mv), [.t 4], none⟩,
             ⟨some 22, .p (.bin .gtr), [.t 21, .c (.int .u64 (.ofNat 0))], none⟩,
             ⟨some 20, .p (.mv), [.t 22], none⟩])
           (.cond (.t 20)
            (.seq (.region [
               ⟨some 2, .p (.mv), [.c (.int .i64 (.ofNat 2))], none⟩])
             (.ret))
            (.skip))))))))))
   (.seq (.region [
      ⟨some 2, .p (.mv), [.c (.int .i64 (.ofNat 0))], none⟩])
    (.ret)))), 23, [.t 2]⟩

/- varve/flo.Key -/
def a250 : AFunc := ⟨.seq (.region [
   ⟨some 2, .p (.mv), [.c (.int .u64 (.ofNat 0))], none⟩])
 (.seq (.seq (.region [
     ⟨some 3, .p (.mv), [.t 0], none⟩,
     ⟨some 4, .p (.bin .and), [.t 3, .c (.int .u64 (.ofNat 9223372036854775808))], none⟩,
     ⟨some 5, .p (.bin .neq), [.t 4, .c (.int .u64 (.ofNat 0))], none⟩])
   (.cond (.t 5)
    (.seq (.region [
       ⟨some 6, .p (.mv), [.t 0], none⟩,
       ⟨some 7, .p (.un .xor), [.t 6], none⟩,
       ⟨some 2, .p (.mv), [.t 7], none⟩])
     (.ret))
    (.skip)))
  (.seq (.region [
     ⟨some 8, .p (.mv), [.t 0], none⟩,
     ⟨some 9, .p (.bin .xor), [.t 8, .c (.int .u64 (.ofNat 9223372036854775808))], none⟩,
     ⟨some 2, .p (.mv), [.t 9], none⟩])
   (.ret))), 10, [.t 2]⟩

/- slices.insertionSortOrdered[uint64] -/
def a257 : AFunc := ⟨.seq (.region [
   ⟨some 8, .p (.mv), [.t 1], none⟩,
   ⟨some 9, .p (.bin .add), [.t 8, .c (.int .i64 (.ofNat 1))], none⟩,
   ⟨some 6, .p (.mv), [.t 9], none⟩])
 (.block 0 (.loop (.seq (.seq (.region [
       ⟨some 10, .p (.mv), [.t 6], none⟩,
       ⟨some 11, .p (.mv), [.t 2], none⟩,
       ⟨some 12, .p (.bin .lss), [.t 10, .t 11], none⟩])
     (.cond (.t 12)
      (.skip)
      (.exit 0)))
    (.seq (.block 1 (.seq (.region [
         ⟨some 15, .p (.mv), [.t 6], none⟩,
         ⟨some 7, .p (.mv), [.t 15], none⟩])
       (.block 2 (.loop (.seq (.seq (.draw (.q ⟨some 16, .p (.mv), [.t 7], none⟩ (.q ⟨some 17, .p (.mv), [.t 1], none⟩ (.q ⟨some 18, .p (.bin .gtr), [.t 16, .t 17], none⟩ (.q ⟨some 19, .p (.mv), [.t 18], none⟩ (.q ⟨some 20, .p (.mv), [.t 0], some (19, true)⟩ (.q ⟨some 21, .p (.mv), [.t 7], some (19, true)⟩ (.q ⟨some 22, .p (.iaddr 1), [.t 20, .t 21], some (19, true)⟩ (.q ⟨some 23, .l (.load none), [.t 22], some (19, true)⟩ (.q ⟨some 24, .p (.mv), [.t 0], some (19, true)⟩ (.q ⟨some 25, .p (.mv), [.t 7], some (19, true)⟩ (.q ⟨some 26, .p (.bin .sub), [.t 25, .c (.int .i64 (.ofNat 1))], some (19, true)⟩ (.q ⟨some 27, .p (.iaddr 1), [.t 24, .t 26], some (19, true)⟩ (.q ⟨some 28, .l (.load none), [.t 27], some (19, true)⟩ (.e ⟨some 29, .i (.call 263), [.t 23, .t 28], some (19, true)⟩ [] (.q ⟨some 30, .p (.pick), [.t 19, .t 29, .c (.bool false)], none⟩ (.done)))))))))))))))))
           (.cond (.t 30)
            (.skip)
            (.exit 2)))
          (.seq (.block 3 (.draw (.q ⟨some 33, .p (.mv), [.t 0], none⟩ (.q ⟨some 34, .p (.mv), [.t 7], none⟩ (.q ⟨some 35, .p (.mv), [.t 0], none⟩ (.q ⟨some 36, .p (.mv), [.t 7], none⟩ (.q ⟨some 37, .p (.bin .sub), [.t 36, .c (.int .i64 (.ofNat 1))], none⟩ (.q ⟨some 38, .p (.mv), [.t 0], none⟩ (.q ⟨some 39, .p (.mv), [.t 7], none⟩ (.q ⟨some 40, .p (.bin .sub), [.t 39, .c (.int .i64 (.ofNat 1))], none⟩ (.q ⟨some 41, .p (.iaddr 1), [.t 38, .t 40], none⟩ (.q ⟨some 42, .l (.load none), [.t 41], none⟩ (.q ⟨some 43, .p (.mv), [.t 0], none⟩ (.q ⟨some 44, .p (.mv), [.t 7], none⟩ (.q ⟨some 45, .p (.iaddr 1), [.t 43, .t 44], none⟩ (.q ⟨some 46, .l (.load none), [.t 45], none⟩ (.q ⟨some 47, .p (.iaddr 1), [.t 33, .t 34], none⟩ (.e ⟨none, .i (.store 1), [.t 47, .t 42], none⟩ [] (.q ⟨some 48, .p (.iaddr 1), [.t 35, .t 37], none⟩ (.e ⟨none, .i (.store 1), [.t 48, .t 46], none⟩ [] (.done)))))))))))))))))))))
           (.region [
             ⟨some 31, .p (.mv), [.t 7], none⟩,
             ⟨some 32, .p (.bin .sub), [.t 31, .c (.int .i64 (.ofNat 1))], none⟩,
             ⟨some 7, .p (.mv), [.t 32], none⟩])))))))
     (.region [
       ⟨some 13, .p (.mv), [.t 6], none⟩,
       ⟨some 14, .p (.bin .add), [.t 13, .c (.int .i64 (.ofNat 1))], none⟩,
       ⟨some 6, .p (.mv), [.t 14], none⟩]))))), 49, []⟩

/- slices.insertionSortOrdered[string] -/
def a268 : AFunc := ⟨.seq (.region [
   ⟨some 8, .p (.mv), [.t 1], none⟩,
   ⟨some 9, .p (.bin .add), [.t 8, .c (.int .i64 (.ofNat 1))], none⟩,
   ⟨some 6, .p (.mv), [.t 9], none⟩])
 (.block 0 (.loop (.seq (.seq (.region [
       ⟨some 10, .p (.mv), [.t 6], none⟩,
       ⟨some 11, .p (.mv), [.t 2], none⟩,
       ⟨some 12, .p (.bin .lss), [.t 10, .t 11], none⟩])
     (.cond (.t 12)
      (.skip)
      (.exit 0)))
    (.seq (.block 1 (.seq (.region [
         ⟨some 15, .p (.mv), [.t 6], none⟩,
         ⟨some 7, .p (.mv), [.t 15], none⟩])
       (.block 2 (.loop (.seq (.seq (.draw (.q ⟨some 16, .p (.mv), [.t 7], none⟩ (.q ⟨some 17, .p (.mv), [.t 1], none⟩ (.q ⟨some 18, .p (.bin .gtr), [.t 16, .t 17], none⟩ (.q ⟨some 19, .p (.mv), [.t 18], none⟩ (.q ⟨some 20, .p (.mv), [.t 0], some (19, true)⟩ (.q ⟨some 21, .p (.mv), [.t 7], some (19, true)⟩ (.q ⟨some 22, .p (.iaddr 1), [.t 20, .t 21], some (19, true)⟩ (.q ⟨some 23, .l (.load none), [.t 22], some (19, true)⟩ (.q ⟨some 24, .p (.mv), [.t 0], some (19, true)⟩ (.q ⟨some 25, .p (.mv), [.t 7], some (19, true)⟩ (.q ⟨some 26, .p (.bin .sub), [.t 25, .c (.int .i64 (.ofNat 1))], some (19, true)⟩ (.q ⟨some 27, .p (.iaddr 1), [.t 24, .t 26], some (19, true)⟩ (.q ⟨some 28, .l (.load none), [.t 27], some (19, true)⟩ (.e ⟨some 29, .i (.call 274), [.t 23, .t 28], some (19, true)⟩ [] (.q ⟨some 30, .p (.pick), [.t 19, .t 29, .c (.bool false)], none⟩ (.done)))))))))))))))))
           (.cond (.t 30)
            (.skip)
            (.exit 2)))
          (.seq (.block 3 (.draw (.q ⟨some 33, .p (.mv), [.t 0], none⟩ (.q ⟨some 34, .p (.mv), [.t 7], none⟩ (.q ⟨some 35, .p (.mv), [.t 0], none⟩ (.q ⟨some 36, .p (.mv), [.t 7], none⟩ (.q ⟨some 37, .p (.bin .sub), [.t 36, .c (.int .i64 (.ofNat 1))], none⟩ (.q ⟨some 38, .p (.mv), [.t 0], none⟩ (.q ⟨some 39, .p (.mv), [.t 7], none⟩ (.q ⟨some 40, .p (.bin .sub), [.t 39, .c (.int .i64 (.ofNat 1))], none⟩ (.q ⟨some 41, .p (.iaddr 1), [.t 38, .t 40], none⟩ (.q ⟨some 42, .l (.load none), [.t 41], none⟩ (.q ⟨some 43, .p (.mv), [.t 0], none⟩ (.q ⟨some 44, .p (.mv), [.t 7], none⟩ (.q ⟨some 45, .p (.iaddr 1), [.t 43, .t 44], none⟩ (.q ⟨some 46, .l (.load none), [.t 45], none⟩ (.q ⟨some 47, .p (.iaddr 1), [.t 33, .t 34], none⟩ (.e ⟨none, .i (.store 1), [.t 47, .t 42], none⟩ [] (.q ⟨some 48, .p (.iaddr 1), [.t 35, .t 37], none⟩ (.e ⟨none, .i (.store 1), [.t 48, .t 46], none⟩ [] (.done)))))))))))))))))))))
           (.region [
             ⟨some 31, .p (.mv), [.t 7], none⟩,
             ⟨some 32, .p (.bin .sub), [.t 31, .c (.int .i64 (.ofNat 1))], none⟩,
             ⟨some 7, .p (.mv), [.t 32], none⟩])))))))
     (.region [
       ⟨some 13, .p (.mv), [.t 6], none⟩,
       ⟨some 14, .p (.bin .add), [.t 13, .c (.int .i64 (.ofNat 1))], none⟩,
       ⟨some 6, .p (.mv), [.t 14], none⟩]))))), 49, []⟩

/- varve/sum.More -/
def a279 : AFunc := ⟨.seq (.region [
   ⟨some 4, .p (.mv), [.c (.int .u32 (.ofNat 0))], none⟩])
 (.seq (.region [
    ⟨some 9, .p (.build [(1, .int .u32 (.ofNat 0)), (1, .int .u32 (.ofNat 0)), (1, .int .u32 (.ofNat 0)), (1, .int .u32 (.ofNat 0)), (1, .int .u32 (.ofNat 0)), (1, .int .u32 (.ofNat 0)), (1, .int .u32 (.ofNat 0)), (1, .int .u32 (.ofNat 0)), (1, .int .u32 (.ofNat 0)), (1, .int .u32 (.ofNat 0)), (1, .int .u32 (.ofNat 0)), (1, .int .u32 (.ofNat 0)), (1, .int .u32 (.ofNat 0)), (1, .int .u32 (.ofNat 0)), (1, .int .u32 (.ofNat 0)), (1, .int .u32 (.ofNat 0))] [(0, 1), (1, 1), (2, 1), (3, 1), (4, 1), (5, 1), (6, 1), (7, 1), (8, 1), (9, 1), (10, 1), (11, 1), (12, 1), (13, 1), (14, 1), (15, 1)]), [.c (.int .u32 (.ofNat 0)), .c (.int .u32 (.ofNat 274646895)), .c (.int .u32 (.ofNat 549293790)), .c (.int .u32 (.ofNat 820201905)), .c (.int .u32 (.ofNat 1098587580)), .c (.int .u32 (.ofNat 1361435347)), .c (.int .u32 (.ofNat 1640403810)), .c (.int .u32 (.ofNat 1905808397)), .c (.int .u32 (.ofNat 2197175160)), .c (.int .u32 (.ofNat 2460548119)), .c (.int .u32 (.ofNat 2722870694)), .c (.int .u32 (.ofNat 2987750089)), .c (.int .u32 (.ofNat 3280807620)), .c (.int .u32 (.ofNat 3553878443)), .c (.int .u32 (.ofNat 3811616794)), .c (.int .u32 (.ofNat 4084100981))], none⟩,
    ⟨some 5, .i (.alloc [(1, .int .u32 (.ofNat 0)), (1, .int .u32 (.ofNat 0)), (1, .int .u32 (.ofNat 0)), (1, .int .u32 (.ofNat 0)), (1, .int .u32 (.ofNat 0)), (1, .int .u32 (.ofNat 0)), (1, .int .u32 (.ofNat 0)), (1, .int .u32 (.ofNat 0)), (1, .int .u32 (.ofNat 0)), (1, .int .u32 (.ofNat 0)), (1, .int .u32 (.ofNat 0)), (1, .int .u32 (.ofNat 0)), (1, .int .u32 (.ofNat 0)), (1, .int .u32 (.ofNat 0)), (1, .int .u32 (.ofNat 0)), (1, .int .u32 (.ofNat 0))]), [], none⟩,
    ⟨none, .i (.store 16), [.t 5, .t 9], none⟩])
  (.seq (.region [
     ⟨some 10, .p (.mv), [.t 0], none⟩,
     ⟨some 11, .p (.un .xor), [.t 10], none⟩,
     ⟨some 6, .p (.mv), [.t 11], none⟩])
   (.seq (.seq (.region [
       ⟨some 12, .p (.mv), [.t 1], none⟩,
       ⟨some 13, .p (.lenL), [.t 12], none⟩,
       ⟨some 14, .p (.mv), [.c (.int .i64 (.ofNat 0))], none⟩])
     (.block 0 (.loop (.seq (.region [
          ⟨some 15, .p (.bin .lss), [.t 14, .t 13], none⟩])
        (.seq (.cond (.t 15)
          (.skip)
          (.exit 0))
         (.seq (.block 1 (.seq (.region [
              ⟨some 16, .p (.iaddr 1), [.t 12, .t 14], none⟩,
              ⟨some 17, .l (.load none), [.t 16], none⟩,
              ⟨some 8, .p (.mv), [.t 17], none⟩])
            (.seq (.region [
               ⟨some 18, .p (.mv), [.t 6], none⟩,
               ⟨some 19, .p (.mv), [.t 8], none⟩,
               ⟨some 20, .p (.convI .u32), [.t 19], none⟩,
               ⟨some 21, .p (.bin .xor), [.t 18, .t 20], none⟩,
               ⟨some 6, .p (.mv), [.t 21], none⟩])
             (.seq (.region [
                ⟨some 22, .p (.mv), [.c (.int .i64 (.ofNat 0))], none⟩])
              (.block 2 (.loop (.seq (.region [
                   ⟨some 23, .p (.bin .lss), [.t 22, .c (.int .i64 (.ofNat 2))], none⟩])
                 (.seq (.cond (.t 23)
                   (.skip)
                   (.exit 2))
                  (.seq (.block 3 (.region [
                      ⟨some 24, .p (.mv), [.t 6], none⟩,
                      ⟨some 25, .p (.bin .shr), [.t 24, .c (.int .u64 (.ofNat 4))], none⟩,
                      ⟨some 26, .p (.mv), [.t 6], none⟩,
                      ⟨some 27, .p (.bin .and), [.t 26, .c (.int .u32 (.ofNat 15))], none⟩,
                      ⟨some 28, .p (.iaddrA 16 1), [.t 5, .t 27], none⟩,
                      ⟨some 29, .l (.load none), [.t 28], none⟩,
                      ⟨some 30, .p (.bin .xor), [.t 25, .t 29], none⟩,
                      ⟨some 6, .p (.mv), [.t 30], none⟩]))
                   (.region [
                     ⟨some 31, .p (.bin .add), [.t 22, .c (.int .i64 (.ofNat 1))], none⟩,
                     ⟨some 22, .p (.mv), [.t 31], none⟩]))))))))))
          (.region [
            ⟨some 32, .p (.bin .add), [.t 14, .c (.int .i64 (.ofNat 1))], none⟩,
            ⟨some 14, .p (.mv), [.t 32], none⟩])))))))
    (.seq (.region [
       ⟨some 33, .p (.mv), [.t 6], none⟩,
       ⟨some 34, .p (.un .xor), [.t 33], none⟩,
       ⟨some 4, .p (.mv), [.t 34], none⟩])
     (.ret))))), 35, [.t 4]⟩

/- varve/gauge.Put -/
def a280 : AFunc := ⟨.seq (.region [
   ⟨some 3, .i (.box 4), [.t 1], none⟩,
   ⟨some 4, .p (.mv), [.c (.list .full 1 [])], none⟩])
 (.seq (.region [
    ⟨some 8, .p (.mv), [.t 0], none⟩,
    ⟨some 9, .p (.faddr 1), [.t 3], none⟩,
    ⟨some 10, .l (.load none), [.t 9], none⟩,
    ⟨some 11, .p (.faddr 0), [.t 3], none⟩,
    ⟨some 12, .l (.load none), [.t 11], none⟩,
    ⟨some 13, .p (.bsl 1 2 false [(1, .int .u64 (.ofNat 0))] [(0, 1), (1, 1)]), [.t 10, .t 12], none⟩,
    ⟨some 14, .i (.call 229), [.t 8, .t 13], none⟩,
    ⟨some 0, .p (.mv), [.t 14], none⟩])
  (.seq (.seq (.region [
      ⟨some 15, .p (.faddr 0), [.t 3], none⟩,
      ⟨some 16, .l (.load none), [.t 15], none⟩,
      ⟨some 17, .p (.bin .eql), [.t 16, .c (.int .u64 (.ofNat 0))], none⟩])
    (.cond (.t 17)
     (.seq (.region [
        ⟨some 18, .p (.mv), [.t 0], none⟩,
        ⟨some 4, .p (.mv), [.t 18], none⟩])
      (.ret))
     (.skip)))
   (.seq (.seq (.region [
       ⟨some 19, .p (.faddr 2), [.t 3], none⟩,
       ⟨some 20, .l (.load none), [.t 19], none⟩,
       ⟨some 21, .p (.faddr 3), [.t 3], none⟩,
       ⟨some 22, .l (.load none), [.t 21], none⟩,
       ⟨some 23, .p (.build [(1, .int .u64 (.ofNat 0)), (1, .int .u64 (.ofNat 0))] [(0, 1), (1, 1)]), [.t 20, .t 22], none⟩,
       ⟨some 24, .p (.mv), [.c (.int .i64 (.ofNat 0))], none⟩])
     (.block 0 (.loop (.seq (.region [
          ⟨some 25, .p (.bin .lss), [.t 24, .c (.int .i64 (.ofNat 2))], none⟩])
        (.seq (.cond (.t 25)
          (.skip)
          (.exit 0))
         (.seq (.block 1 (.seq (.region [
              ⟨some 26, .p (.idxA 2 1 none), [.t 23, .t 24], none⟩,
              ⟨some 6, .p (.mv), [.t 26], none⟩])
            (.seq (.region [
               ⟨some 27, .p (.mv), [.c (.int .i64 (.ofNat 0))], none⟩])
             (.block 2 (.loop (.seq (.region [
                  ⟨some 28, .p (.bin .lss), [.t 27, .c (.int .i64 (.ofNat 8))], none⟩])
                (.seq (.cond (.t 28)
                  (.skip)
                  (.exit 2))
                 (.seq (.block 3 (.seq (.region [
                      ⟨some 29, .p (.mv), [.t 27], none⟩,
                      ⟨some 7, .p (.mv), [.t 29], none⟩])
                    (.region [
                      ⟨some 30, .p (.mv), [.t 0], none⟩,
                      ⟨some 31, .p (.mv), [.t 6], none⟩,
                      ⟨some 32, .p (.mv), [.t 7], none⟩,
                      ⟨some 33, .p (.bin .mul), [.c (.int .i64 (.ofNat 8)), .t 32], none⟩,
                      ⟨some 34, .p (.bin .shr), [.t 31, .t 33], none⟩,
                      ⟨some 35, .p (.convI .u8), [.t 34], none⟩,
                      ⟨some 36, .p (.bsl 1 1 false [(1, .int .u8 (.ofNat 0))] [(0, 1)]), [.t 35], none⟩,
                      ⟨some 37, .i (.append 1 1), [.t 30, .t 36], none⟩,
                      ⟨some 0, .p (.mv), [.t 37], none⟩])))
                  (.region [
                    ⟨some 38, .p (.bin .add), [.t 27, .c (.int .i64 (.ofNat 1))], none⟩,
                    ⟨some 27, .p (.mv), [.t 38], none⟩])))))))))
          (.region [
            ⟨some 39, .p (.bin .add), [.t 24, .c (.int .i64 (.ofNat 1))], none⟩,
            ⟨some 24, .p (.mv), [.t 39], none⟩])))))))
    (.seq (.region [
       ⟨some 40, .p (.mv), [.t 0], none⟩,
       ⟨some 4, .p (.mv), [.t 40], none⟩])
     (.ret))))), 41, [.t 4]⟩

/- varve/kmv.Put -/
def a281 : AFunc := ⟨.seq (.region [
   ⟨some 4, .p (.mv), [.c (.list .full 1 [])], none⟩])
 (.seq (.region [
    ⟨some 5, .p (.mv), [.t 0], none⟩,
    ⟨some 6, .p (.mv), [.t 1], none⟩,
    ⟨some 7, .i (.call 326), [.t 5, .t 6], none⟩,
    ⟨some 4, .p (.mv), [.t 7], none⟩])
  (.ret)), 8, [.t 4]⟩

/- varve/hist.Put -/
def a282 : AFunc := ⟨.seq (.region [
   ⟨some 4, .p (.mv), [.c (.list .full 1 [])], none⟩])
 (.seq (.seq (.region [
     ⟨some 5, .p (.mv), [.t 1], none⟩,
     ⟨some 6, .i (.call 177), [.t 5], none⟩,
     ⟨some 7, .p (.un .not), [.t 6], none⟩])
   (.cond (.t 7)
    (.region [
      ⟨some 1, .p (.mv), [.c (.list .full 2 [])], none⟩])
    (.skip)))
  (.seq (.draw (.q ⟨some 8, .p (.mv), [.t 0], none⟩ (.q ⟨some 9, .p (.mv), [.t 0], none⟩ (.q ⟨some 10, .p (.lenL), [.t 9], none⟩ (.q ⟨some 11, .p (.mv), [.t 0], none⟩ (.q ⟨some 12, .p (.lenL), [.t 11], none⟩ (.q ⟨some 13, .p (.slL 1 false true true), [.t 8, .t 10, .t 12], none⟩ (.q ⟨some 14, .p (.mv), [.t 1], none⟩ (.e ⟨some 15, .i (.call 327), [.t 14], none⟩ [] (.e ⟨some 16, .i (.append 1 1), [.t 13, .t 15], none⟩ [] (.q ⟨some 4, .p (.mv), [.t 16], none⟩ (.done))))))))))))
   (.ret))), 17, [.t 4]⟩

/- varve/vint.PutText -/
def a283 : AFunc := ⟨.seq (.region [
   ⟨some 4, .p (.mv), [.c (.list .full 1 [])], none⟩])
 (.seq (.region [
    ⟨some 5, .p (.mv), [.t 0], none⟩,
    ⟨some 6, .p (.mv), [.t 1], none⟩,
    ⟨some 7, .p (.lenS), [.t 6], none⟩,
    ⟨some 8, .p (.convI .u64), [.t 7], none⟩,
    ⟨some 9, .i (.call 171), [.t 5, .t 8], none⟩,
    ⟨some 10, .p (.mv), [.t 1], none⟩,
    ⟨some 11, .i (.append 1 1), [.t 9, .t 10], none⟩,
    ⟨some 4, .p (.mv), [.t 11], none⟩])
  (.ret)), 12, [.t 4]⟩

/- internal/strconv.Itoa -/
def a285 : AFunc := ⟨.seq (.region [
   ⟨some 2, .p (.mv), [.c (.str [])], none⟩])
 (.seq (.region [
    ⟨some 3, .p (.mv), [.t 0], none⟩,
    ⟨some 4, .i (.call 328), [.t 3, .c (.int .i64 (.ofNat 10))], none⟩,
    ⟨some 2, .p (.mv), [.t 4], none⟩])
  (.ret)), 5, [.t 2]⟩

/- internal/bytealg.CompareString -/
def a303 : AFunc := ⟨.seq (.region [
   ⟨some 4, .p (.mv), [.c (.int .i64 (.ofNat 0))], none⟩])
 (.seq (.region [
    ⟨some 5, .p (.mv), [.t 0], none⟩,
    ⟨some 6, .p (.mv), [.t 1], none⟩,
    ⟨some 7, .p (.cmpS), [.t 5, .t 6], none⟩,
    ⟨some 4, .p (.mv), [.t 7], none⟩])
  (.ret)), 8, [.t 4]⟩

/- varve/flo.parts -/
def a304 : AFunc := ⟨.seq (.region [
   ⟨some 2, .p (.mv), [.c (.int .i64 (.ofNat 0))], none⟩,
   ⟨some 3, .p (.mv), [.c (.int .u64 (.ofNat 0))], none⟩])
 (.seq (.region [
    ⟨some 4, .p (.mv), [.t 0], none⟩,
    ⟨some 5, .p (.bin .shr), [.t 4, .c (.int .u64 (.ofNat 52))], none⟩,
    ⟨some 6, .p (.bin .and), [.t 5, .c (.int .u64 (.ofNat 2047))], none⟩,
    ⟨some 7, .p (.convI .i64), [.t 6], none⟩,
    ⟨some 8, .p (.mv), [.t 0], none⟩,
    ⟨some 9, .p (.bin .and), [.t 8, .c (.int .u64 (.ofNat 4503599627370495))], none⟩,
    ⟨some 2, .p (.mv), [.t 7], none⟩,
    ⟨some 3, .p (.mv), [.t 9], none⟩])
  (.ret)), 10, [.t 2, .t 3]⟩

/- varve/vint.PutRise -/
def a326 : AFunc := ⟨.seq (.region [
   ⟨some 4, .p (.mv), [.c (.list .full 1 [])], none⟩])
 (.seq (.region [
    ⟨some 8, .p (.mv), [.t 0], none⟩,
    ⟨some 9, .p (.mv), [.t 1], none⟩,
    ⟨some 10, .p (.lenL), [.t 9], none⟩,
    ⟨some 11, .p (.convI .u64), [.t 10], none⟩,
    ⟨some 12, .i (.call 171), [.t 8, .t 11], none⟩,
    ⟨some 0, .p (.mv), [.t 12], none⟩])
  (.seq (.region [
     ⟨some 5, .p (.mv), [.c (.int .u64 (.ofNat 0))], none⟩])
   (.seq (.seq (.region [
       ⟨some 13, .p (.mv), [.t 1], none⟩,
       ⟨some 14, .p (.lenL), [.t 13], none⟩,
       ⟨some 15, .p (.mv), [.c (.int .i64 (.ofNat 0))], none⟩])
     (.block 0 (.loop (.seq (.region [
          ⟨some 16, .p (.bin .lss), [.t 15, .t 14], none⟩])
        (.seq (.cond (.t 16)
          (.skip)
          (.exit 0))
         (.seq (.block 1 (.seq (.region [
              ⟨some 17, .p (.iaddr 1), [.t 13, .t 15], none⟩,
              ⟨some 18, .l (.load none), [.t 17], none⟩,
              ⟨some 7, .p (.mv), [.t 18], none⟩])
            (.seq (.region [
               ⟨some 19, .p (.mv), [.t 0], none⟩,
               ⟨some 20, .p (.mv), [.t 7], none⟩,
               ⟨some 21, .p (.mv), [.t 5], none⟩,
               ⟨some 22, .p (.bin .sub), [.t 20, .t 21], none⟩,
               ⟨some 23, .i (.call 234), [.t 19, .t 22], none⟩,
               ⟨some 0, .p (.mv), [.t 23], none⟩])
             (.region [
               ⟨some 24, .p (.mv), [.t 7], none⟩,
               ⟨some 25, .p (.bin .add), [.t 24, .c (.int .u64 (.ofNat 1))], none⟩,
               ⟨some 5, .p (.mv), [.t 25], none⟩]))))
          (.region [
            ⟨some 26, .p (.bin .add), [.t 15, .c (.int .i64 (.ofNat 1))], none⟩,
            ⟨some 15, .p (.mv), [.t 26], none⟩])))))))
    (.seq (.region [
       ⟨some 27, .p (.mv), [.t 0], none⟩,
       ⟨some 4, .p (.mv), [.t 27], none⟩])
     (.ret))))), 28, [.t 4]⟩

/- varve/hist.form -/
def a327 : AFunc := ⟨.seq (.region [
   ⟨some 2, .p (.mv), [.c (.list .full 1 [])], none⟩])
 (.seq (.region [
    ⟨some 5, .p (.mv), [.t 0], none⟩,
    ⟨some 6, .i (.call 348), [.t 5], none⟩,
    ⟨some 3, .p (.mv), [.t 6], none⟩])
  (.seq (.seq (.region [
      ⟨some 7, .p (.mv), [.t 0], none⟩,
      ⟨some 8, .p (.lenL), [.t 7], none⟩,
      ⟨some 9, .p (.bin .gtr), [.t 8, .c (.int .i64 (.ofNat 0))], none⟩])
    (.cond (.t 9)
     (.seq (.region [
        ⟨some 10, .p (.mv), [.t 0], none⟩,
        ⟨some 11, .i (.call 349), [.t 10], none⟩,
        ⟨some 4, .p (.mv), [.t 11], none⟩])
      (.seq (.region [
         ⟨some 12, .p (.mv), [.t 4], none⟩,
         ⟨some 13, .p (.lenL), [.t 12], none⟩,
         ⟨some 14, .p (.mv), [.t 3], none⟩,
         ⟨some 15, .p (.lenL), [.t 14], none⟩,
         ⟨some 16, .p (.bin .lss), [.t 13, .t 15], none⟩])
       (.cond (.t 16)
        (.seq (.region [
           ⟨some 17, .p (.mv), [.t 4], none⟩,
           ⟨some 2, .p (.mv), [.t 17], none⟩])
         (.ret))
        (.skip))))
     (.skip)))
   (.seq (.region [
      ⟨some 18, .p (.mv), [.t 3], none⟩,
      ⟨some 2, .p (.mv), [.t 18], none⟩])
    (.ret)))), 19, [.t 2]⟩

/- internal/strconv.FormatInt -/
def a328 : AFunc := ⟨.seq (.region [
   ⟨some 4, .p (.mv), [.c (.str [])], none⟩])
 (.seq (.seq (.region [
     ⟨some 10, .p (.mv), [.t 1], none⟩,
     ⟨some 11, .p (.bin .eql), [.t 10, .c (.int .i64 (.ofNat 10))], none⟩])
   (.cond (.t 11)
    (.seq (.seq (.region [
        ⟨some 12, .p (.mv), [.t 0], none⟩,
        ⟨some 13, .p (.bin .leq), [.c (.int .i64 (.ofNat 0)), .t 12], none⟩,
        ⟨some 14, .p (.mv), [.t 13], none⟩,
        ⟨some 15, .p (.mv), [.t 0], some (14, true)⟩,
        ⟨some 16, .p (.bin .lss), [.t 15, .c (.int .i64 (.ofNat 100))], some (14, true)⟩,
        ⟨some 17, .p (.pick), [.t 14, .t 16, .c (.bool false)], none⟩])
      (.cond (.t 17)
       (.seq (.region [
          ⟨some 18, .p (.mv), [.t 0], none⟩,
          ⟨some 19, .i (.call 350), [.t 18], none⟩,
          ⟨some 4, .p (.mv), [.t 19], none⟩])
        (.ret))
       (.skip)))
     (.seq (.region [
        ⟨some 5, .i (.alloc [(1, .int .u8 (.ofNat 0)), (1, .int .u8 (.ofNat 0)), (1, .int .u8 (.ofNat 0)), (1, .int .u8 (.ofNat 0)), (1, .int .u8 (.ofNat 0)), (1, .int .u8 (.ofNat 0)), (1, .int .u8 (.ofNat 0)), (1, .int .u8 (.ofNat 0)), (1, .int .u8 (.ofNat 0)), (1, .int .u8 (.ofNat 0)), (1, .int .u8 (.ofNat 0)), (1, .int .u8 (.ofNat 0)), (1, .int .u8 (.ofNat 0)), (1, .int .u8 (.ofNat 0)), (1, .int .u8 (.ofNat 0)), (1, .int .u8 (.ofNat 0)), (1, .int .u8 (.ofNat 0)), (1, .int .u8 (.ofNat 0)), (1, .int .u8 (.ofNat 0)), (1, .int .u8 (.ofNat 0)), (1, .int .u8 (.ofNat 0)), (1, .int .u8 (.ofNat 0)), (1, .int .u8 (.ofNat 0)), (1, .int .u8 (.ofNat 0))]), [], none⟩])
      (.seq (.region [
         ⟨some 20, .p (.mv), [.t 0], none⟩,
         ⟨some 21, .p (.convI .u64), [.t 20], none⟩,
         ⟨some 6, .p (.mv), [.t 21], none⟩])
       (.seq (.seq (.region [
           ⟨some 22, .p (.mv), [.t 0], none⟩,
           ⟨some 23, .p (.bin .lss), [.t 22, .c (.int .i64 (.ofNat 0))], none⟩])
         (.cond (.t 23)
          (.region [
            ⟨some 24, .p (.mv), [.t 6], none⟩,
            ⟨some 25, .p (.un .neg), [.t 24], none⟩,
            ⟨some 6, .p (.mv), [.t 25], none⟩])
          (.skip)))
        (.seq (.region [
           ⟨some 26, .p (.mv), [.t 6], none⟩,
           ⟨some 27, .i (.call 351), [.t 26], none⟩,
           ⟨some 7, .p (.mv), [.t 27], none⟩])
         (.seq (.region [
            ⟨some 28, .p (.mv), [.t 7], none⟩,
            ⟨some 29, .p (.bin .add), [.c (.int .i64 (.ofNat 1)), .t 28], none⟩,
            ⟨some 30, .l (.slA 24 1 true true false), [.t 5, .c (.int .i64 (.ofNat 1)), .t 29], none⟩,
            ⟨some 31, .p (.mv), [.t 6], none⟩,
            ⟨some 32, .i (.call 352), [.t 30, .t 31], none⟩])
          (.seq (.seq (.region [
              ⟨some 33, .p (.mv), [.t 0], none⟩,
              ⟨some 34, .p (.bin .lss), [.t 33, .c (.int .i64 (.ofNat 0))], none⟩])
            (.cond (.t 34)
             (.seq (.region [
                ⟨some 35, .p (.iaddrA 24 1), [.t 5, .c (.int .i64 (.ofNat 0))], none⟩,
                ⟨none, .i (.store 1), [.t 35, .c (.int .u8 (.ofNat 45))], none⟩])
              (.seq (.region [
                 ⟨some 36, .p (.mv), [.t 7], none⟩,
                 ⟨some 37, .p (.bin .add), [.c (.int .i64 (.ofNat 1)), .t 36], none⟩,
                 ⟨some 38, .l (.slA 24 1 false true false), [.t 5, .t 37], none⟩,
                 ⟨some 39, .l (.convS), [.t 38], none⟩,
                 ⟨some 4, .p (.mv), [.t 39], none⟩])
               (.ret)))
             (.skip)))
           (.seq (.region [
              ⟨some 40, .p (.mv), [.t 7], none⟩,
              ⟨some 41, .p (.bin .add), [.c (.int .i64 (.ofNat 1)), .t 40], none⟩,
              ⟨some 42, .l (.slA 24 1 true true false), [.t 5, .c (.int .i64 (.ofNat 1)), .t 41], none⟩,
              ⟨some 43, .l (.convS), [.t 42], none⟩,
              ⟨some 4, .p (.mv), [.t 43], none⟩])
            (.ret)))))))))
    (.skip)))
  (.seq (.region [
     ⟨some 45, .p (.mv), [.t 0], none⟩,
     ⟨some 46, .p (.convI .u64), [.t 45], none⟩,
     ⟨some 47, .p (.mv), [.t 1], none⟩,
     ⟨some 48, .p (.mv), [.t 0], none⟩,
     ⟨some 49, .p (.bin .lss), [.t 48, .c (.int .i64 (.ofNat 0))], none⟩,
     ⟨some 50, .i (.call 353), [.c (.list .full 1 []), .t 46, .t 47, .t 49, .c (.bool false)], none⟩,
     ⟨some 44, .p (.mv), [.t 50], none⟩,
     ⟨some 51, .p (.ext 0), [.t 44], none⟩,
     ⟨some 52, .p (.ext 1), [.t 44], none⟩,
     ⟨some 8, .p (.mv), [.t 51], none⟩,
     ⟨some 9, .p (.mv), [.t 52], none⟩])
   (.seq (.region [
      ⟨some 53, .p (.mv), [.t 9], none⟩,
      ⟨some 4, .p (.mv), [.t 53], none⟩])
    (.ret)))), 54, [.t 4]⟩

/- varve/hist.sparse -/
def a348 : AFunc := ⟨.seq (.region [
   ⟨some 2, .p (.mv), [.c (.list .full 1 [])], none⟩])
 (.seq (.region [
    ⟨some 7, .p (.mv), [.t 0], none⟩,
    ⟨some 8, .p (.lenL), [.t 7], none⟩,
    ⟨some 9, .p (.convI .u64), [.t 8], none⟩,
    ⟨some 10, .p (.bsl 1 2 false [(1, .int .u64 (.ofNat 0))] [(0, 1), (1, 1)]), [.c (.int .u64 (.ofNat 0)), .t 9], none⟩,
    ⟨some 11, .i (.call 229), [.c (.list .full 1 []), .t 10], none⟩,
    ⟨some 3, .p (.mv), [.t 11], none⟩])
  (.seq (.region [
     ⟨some 4, .p (.mv), [.c (.int .i64 (.ofNat 0))], none⟩])
   (.seq (.seq (.region [
       ⟨some 12, .p (.mv), [.t 0], none⟩,
       ⟨some 13, .p (.lenL), [.t 12], none⟩,
       ⟨some 14, .p (.mv), [.c (.int .i64 (.ofNat 0))], none⟩])
     (.block 0 (.loop (.seq (.region [
          ⟨some 15, .p (.bin .lss), [.t 14, .t 13], none⟩])
        (.seq (.cond (.t 15)
          (.skip)
          (.exit 0))
         (.seq (.block 1 (.seq (.region [
              ⟨some 16, .p (.iaddr 2), [.t 12, .t 14], none⟩,
              ⟨some 17, .l (.load (some 2)), [.t 16], none⟩,
              ⟨some 6, .i (.alloc [(1, .int .i64 (.ofNat 0)), (1, .int .u64 (.ofNat 0))]), [], none⟩,
              ⟨none, .i (.store 2), [.t 6, .t 17], none⟩])
            (.seq (.region [
               ⟨some 18, .p (.mv), [.t 3], none⟩,
               ⟨some 19, .p (.faddr 0), [.t 6], none⟩,
               ⟨some 20, .l (.load none), [.t 19], none⟩,
               ⟨some 21, .p (.mv), [.t 4], none⟩,
               ⟨some 22, .p (.bin .sub), [.t 20, .t 21], none⟩,
               ⟨some 23, .p (.convI .u64), [.t 22], none⟩,
               ⟨some 24, .p (.faddr 1), [.t 6], none⟩,
               ⟨some 25, .l (.load none), [.t 24], none⟩,
               ⟨some 26, .p (.bsl 1 2 false [(1, .int .u64 (.ofNat 0))] [(0, 1), (1, 1)]), [.t 23, .t 25], none⟩,
               ⟨some 27, .i (.call 229), [.c (.list .full 1 []), .t 26], none⟩,
               ⟨some 28, .i (.append 1 1), [.t 18, .t 27], none⟩,
               ⟨some 3, .p (.mv), [.t 28], none⟩])
             (.region [
               ⟨some 29, .p (.faddr 0), [.t 6], none⟩,
               ⟨some 30, .l (.load none), [.t 29], none⟩,
               ⟨some 31, .p (.bin .add), [.t 30, .c (.int .i64 (.ofNat 1))], none⟩,
               ⟨some 4, .p (.mv), [.t 31], none⟩]))))
          (.region [
            ⟨some 32, .p (.bin .add), [.t 14, .c (.int .i64 (.ofNat 1))], none⟩,
            ⟨some 14, .p (.mv), [.t 32], none⟩])))))))
    (.seq (.region [
       ⟨some 33, .p (.mv), [.t 3], none⟩,
       ⟨some 2, .p (.mv), [.t 33], none⟩])
     (.ret))))), 34, [.t 2]⟩

/- varve/hist.dense -/
def a349 : AFunc := ⟨.seq (.region [
   ⟨some 2, .p (.mv), [.c (.list .full 1 [])], none⟩])
 (.seq (.draw (.q ⟨some 9, .p (.mv), [.t 0], none⟩ (.q ⟨some 10, .p (.iaddr 2), [.t 9, .c (.int .i64 (.ofNat 0))], none⟩ (.q ⟨some 11, .p (.faddr 0), [.t 10], none⟩ (.q ⟨some 12, .l (.load none), [.t 11], none⟩ (.q ⟨some 13, .p (.mv), [.t 0], none⟩ (.q ⟨some 14, .p (.mv), [.t 0], none⟩ (.q ⟨some 15, .p (.lenL), [.t 14], none⟩ (.q ⟨some 16, .p (.bin .sub), [.t 15, .c (.int .i64 (.ofNat 1))], none⟩ (.q ⟨some 17, .p (.iaddr 2), [.t 13, .t 16], none⟩ (.q ⟨some 18, .p (.faddr 0), [.t 17], none⟩ (.q ⟨some 19, .l (.load none), [.t 18], none⟩ (.q ⟨some 3, .p (.mv), [.t 12], none⟩ (.q ⟨some 4, .p (.mv), [.t 19], none⟩ (.done)))))))))))))))
  (.seq (.region [
     ⟨some 20, .p (.mv), [.t 3], none⟩,
     ⟨some 21, .p (.convI .u64), [.t 20], none⟩,
     ⟨some 22, .p (.mv), [.t 4], none⟩,
     ⟨some 23, .p (.mv), [.t 3], none⟩,
     ⟨some 24, .p (.bin .sub), [.t 22, .t 23], none⟩,
     ⟨some 25, .p (.bin .add), [.t 24, .c (.int .i64 (.ofNat 1))], none⟩,
     ⟨some 26, .p (.convI .u64), [.t 25], none⟩,
     ⟨some 27, .p (.bsl 1 3 false [(1, .int .u64 (.ofNat 0))] [(0, 1), (1, 1), (2, 1)]), [.c (.int .u64 (.ofNat 1)), .t 21, .t 26], none⟩,
     ⟨some 28, .i (.call 229), [.c (.list .full 1 []), .t 27], none⟩,
     ⟨some 5, .p (.mv), [.t 28], none⟩])
   (.seq (.region [
      ⟨some 29, .p (.mv), [.t 3], none⟩,
      ⟨some 6, .p (.mv), [.t 29], none⟩])
    (.seq (.seq (.region [
        ⟨some 30, .p (.mv), [.t 0], none⟩,
        ⟨some 31, .p (.lenL), [.t 30], none⟩,
        ⟨some 32, .p (.mv), [.c (.int .i64 (.ofNat 0))], none⟩])
      (.block 0 (.loop (.seq (.region [
           ⟨some 33, .p (.bin .lss), [.t 32, .t 31], none⟩])
         (.seq (.cond (.t 33)
           (.skip)
           (.exit 0))
          (.seq (.block 1 (.seq (.region [
               ⟨some 34, .p (.iaddr 2), [.t 30, .t 32], none⟩,
               ⟨some 35, .l (.load (some 2)), [.t 34], none⟩,
               ⟨some 8, .i (.alloc [(1, .int .i64 (.ofNat 0)), (1, .int .u64 (.ofNat 0))]), [], none⟩,
               ⟨none, .i (.store 2), [.t 8, .t 35], none⟩])
             (.seq (.region [
                ⟨some 36, .p (.mv), [.t 5], none⟩,
                ⟨some 37, .p (.faddr 0), [.t 8], none⟩,
                ⟨some 38, .l (.load none), [.t 37], none⟩,
                ⟨some 39, .p (.mv), [.t 6], none⟩,
                ⟨some 40, .p (.bin .sub), [.t 38, .t 39], none⟩,
                ⟨some 41, .i (.appendZ 1 1 false [(1, .int .u8 (.ofNat 0))]), [.t 36, .t 40], none⟩,
                ⟨some 5, .p (.mv), [.t 41], none⟩])
              (.seq (.region [
                 ⟨some 42, .p (.mv), [.t 5], none⟩,
                 ⟨some 43, .p (.faddr 1), [.t 8], none⟩,
                 ⟨some 44, .l (.load none), [.t 43], none⟩,
                 ⟨some 45, .p (.bsl 1 1 false [(1, .int .u64 (.ofNat 0))] [(0, 1)]), [.t 44], none⟩,
                 ⟨some 46, .i (.call 229), [.c (.list .full 1 []), .t 45], none⟩,
                 ⟨some 47, .i (.append 1 1), [.t 42, .t 46], none⟩,
                 ⟨some 5, .p (.mv), [.t 47], none⟩])
               (.region [
                 ⟨some 48, .p (.faddr 0), [.t 8], none⟩,
                 ⟨some 49, .l (.load none), [.t 48], none⟩,
                 ⟨some 50, .p (.bin .add), [.t 49, .c (.int .i64 (.ofNat 1))], none⟩,
                 ⟨some 6, .p (.mv), [.t 50], none⟩])))))
           (.region [
             ⟨some 51, .p (.bin .add), [.t 32, .c (.int .i64 (.ofNat 1))], none⟩,
             ⟨some 32, .p (.mv), [.t 51], none⟩])))))))
     (.seq (.region [
        ⟨some 52, .p (.mv), [.t 5], none⟩,
        ⟨some 2, .p (.mv), [.t 52], none⟩])
      (.ret)))))), 53, [.t 2]⟩

/- internal/strconv.small -/
def a350 : AFunc := ⟨.seq (.region [
   ⟨some 2, .p (.mv), [.c (.str [])], none⟩])
 (.seq (.seq (.region [
     ⟨some 3, .p (.mv), [.t 0], none⟩,
     ⟨some 4, .p (.bin .lss), [.t 3, .c (.int .i64 (.ofNat 10))], none⟩])
   (.cond (.t 4)
    (.seq (.region [
       ⟨some 5, .p (.mv), [.t 0], none⟩,
       ⟨some 6, .p (.mv), [.t 0], none⟩,
       ⟨some 7, .p (.bin .add), [.t 6, .c (.int .i64 (.ofNat 1))], none⟩,
       ⟨some 8, .p (.slS true true), [.c (.str [48, 49, 50, 51, 52, 53, 54, 55, 56, 57, 97, 98, 99, 100, 101, 102, 103, 104, 105, 106, 107, 108, 109, 110, 111, 112, 113, 114, 115, 116, 117, 118, 119, 120, 121, 122]), .t 5, .t 7], none⟩,
       ⟨some 2, .p (.mv), [.t 8], none⟩])
     (.ret))
    (.skip)))
  (.seq (.region [
     ⟨some 9, .p (.mv), [.t 0], none⟩,
     ⟨some 10, .p (.bin .mul), [.t 9, .c (.int .i64 (.ofNat 2))], none⟩,
     ⟨some 11, .p (.mv), [.t 0], none⟩,
     ⟨some 12, .p (.bin .mul), [.t 11, .c (.int .i64 (.ofNat 2))], none⟩,
     ⟨some 13, .p (.bin .add), [.t 12, .c (.int .i64 (.ofNat 2))], none⟩,
     ⟨some 14, .p (.slS true true), [.c (.str [48, 48, 48, 49, 48, 50, 48, 51, 48, 52, 48, 53, 48, 54, 48, 55, 48, 56, 48, 57, 49, 48, 49, 49, 49, 50, 49, 51, 49, 52, 49, 53, 49, 54, 49, 55, 49, 56, 49, 57, 50, 48, 50, 49, 50, 50, 50, 51, 50, 52, 50, 53, 50, 54, 50, 55, 50, 56, 50, 57, 51, 48, 51, 49, 51, 50, 51, 51, 51, 52, 51, 53, 51, 54, 51, 55, 51, 56, 51, 57, 52, 48, 52, 49, 52, 50, 52, 51, 52, 52, 52, 53, 52, 54, 52, 55, 52, 56, 52, 57, 53, 48, 53, 49, 53, 50, 53, 51, 53, 52, 53, 53, 53, 54, 53, 55, 53, 56, 53, 57, 54, 48, 54, 49, 54, 50, 54, 51, 54, 52, 54, 53, 54, 54, 54, 55, 54, 56, 54, 57, 55, 48, 55, 49, 55, 50, 55, 51, 55, 52, 55, 53, 55, 54, 55, 55, 55, 56, 55, 57, 56, 48, 56, 49, 56, 50, 56, 51, 56, 52, 56, 53, 56, 54, 56, 55, 56, 56, 56, 57, 57, 48, 57, 49, 57, 50, 57, 51, 57, 52, 57, 53, 57, 54, 57, 55, 57, 56, 57, 57]), .t 10, .t 13], none⟩,
     ⟨some 2, .p (.mv), [.t 14], none⟩])
   (.ret))), 15, [.t 2]⟩

end Go.Am.Tab
