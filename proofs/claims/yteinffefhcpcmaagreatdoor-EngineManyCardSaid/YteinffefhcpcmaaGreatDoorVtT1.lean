/- The functions' code as the abstract machine reads it: written by a program of this session. -/
import Derived.Test.YteinffefhcpcmaaGreatDoorAmA
set_option linter.unusedVariables false
set_option linter.unusedSimpArgs false
set_option linter.unusedSectionVars false
namespace Go.Am.Tab
open Go.Am
/- varve/engine.Open$1 -/
def a41 : AFunc := ⟨.seq (.region [
   ⟨some 2, .p (.mv), [.c (.int .i64 (.ofNat 0))], none⟩])
 (.seq (.draw (.q ⟨some 3, .l (.load none), [.t 0], none⟩ (.q ⟨some 4, .l (.load none), [.t 1], none⟩ (.q ⟨some 5, .p (.nilchk), [.t 4], none⟩ (.q ⟨some 6, .p (.faddr 0), [.t 5], none⟩ (.q ⟨some 7, .l (.load (some 6)), [.t 6], none⟩ (.e ⟨some 8, .i (.call 42), [.t 3, .t 7], none⟩ [] (.q ⟨some 2, .p (.mv), [.t 8], none⟩ (.done)))))))))
  (.ret)), 9, [.t 2]⟩

/- varve/man.Publish -/
def a42 : AFunc := ⟨.seq (.region [
   ⟨some 2, .i (.box 1), [.t 0], none⟩,
   ⟨some 3, .i (.box 6), [.t 1], none⟩,
   ⟨some 4, .p (.mv), [.c (.int .i64 (.ofNat 0))], none⟩])
 (.scope (.seq (.region [
     ⟨some 11, .l (.load (some 6)), [.t 3], none⟩,
     ⟨some 12, .i (.call 91), [.t 11], none⟩,
     ⟨some 10, .p (.mv), [.t 12], none⟩,
     ⟨some 13, .p (.ext 0), [.t 10], none⟩,
     ⟨some 14, .p (.ext 1), [.t 10], none⟩,
     ⟨some 5, .i (.alloc [(1, .list .full 1 [])]), [], none⟩,
     ⟨none, .i (.store 1), [.t 5, .t 13], none⟩,
     ⟨some 6, .p (.mv), [.t 14], none⟩])
   (.seq (.seq (.region [
       ⟨some 15, .p (.mv), [.t 6], none⟩,
       ⟨some 16, .p (.bin .neq), [.t 15, .c (.int .i64 (.ofNat 0))], none⟩])
     (.cond (.t 16)
      (.seq (.region [
         ⟨some 17, .p (.mv), [.t 6], none⟩,
         ⟨some 4, .p (.mv), [.t 17], none⟩])
       (.ret))
      (.skip)))
    (.seq (.region [
       ⟨some 18, .p (.mkf (.func 92) 0), [.t 2], none⟩,
       ⟨some 19, .p (.mkf (.func 94) 0), [.t 2, .t 5], none⟩,
       ⟨some 20, .p (.mkf (.func 96) 0), [.t 2], none⟩,
       ⟨some 21, .p (.mkf (.func 98) 0), [.t 2], none⟩,
       ⟨some 22, .l (.load none), [.t 2], none⟩,
       ⟨some 23, .p (.mkf (.func 73) 1), [.t 22], none⟩,
       ⟨some 24, .p (.bsl 1 5 false [(1, .nilf)] [(0, 1), (1, 1), (2, 1), (3, 1), (4, 1)]), [.t 18, .t 19, .t 20, .t 21, .t 23], none⟩,
       ⟨some 7, .p (.mv), [.t 24], none⟩])
     (.seq (.label 0)
      (.seq (.seq (.region [
          ⟨some 25, .p (.mv), [.t 7], none⟩,
          ⟨some 26, .p (.lenL), [.t 25], none⟩,
          ⟨some 27, .p (.mv), [.c (.int .i64 (.ofNat 0))], none⟩])
        (.block 0 (.loop (.seq (.region [
             ⟨some 28, .p (.bin .lss), [.t 27, .t 26], none⟩])
           (.seq (.cond (.t 28)
             (.skip)
             (.exit 0))
            (.seq (.block 1 (.seq (.region [
                 ⟨some 29, .p (.iaddr 1), [.t 25, .t 27], none⟩,
                 ⟨some 30, .l (.load none), [.t 29], none⟩,
                 ⟨some 9, .p (.mv), [.t 30], none⟩])
               (.seq (.region [
                  ⟨some 31, .p (.mv), [.t 9], none⟩,
                  ⟨some 32, .i (.callv), [.t 31], none⟩,
                  ⟨some 6, .p (.mv), [.t 32], none⟩])
                (.seq (.region [
                   ⟨some 33, .p (.mv), [.t 6], none⟩,
                   ⟨some 34, .p (.bin .neq), [.t 33, .c (.int .i64 (.ofNat 0))], none⟩])
                 (.cond (.t 34)
                  (.exit 0)
                  (.skip))))))
             (.region [
               ⟨some 35, .p (.bin .add), [.t 27, .c (.int .i64 (.ofNat 1))], none⟩,
               ⟨some 27, .p (.mv), [.t 35], none⟩])))))))
       (.seq (.region [
          ⟨some 36, .p (.mv), [.t 6], none⟩,
          ⟨some 4, .p (.mv), [.t 36], none⟩])
        (.ret)))))))), 37, [.t 4]⟩

/- (*varve/wal.Log).Ready -/
def a43 : AFunc := ⟨.seq (.region [
   ⟨some 2, .p (.mv), [.c (.int .i64 (.ofNat 0))], none⟩])
 (.scope (.seq (.region [
     ⟨some 5, .p (.mv), [.t 0], none⟩,
     ⟨some 6, .p (.nilchk), [.t 5], none⟩,
     ⟨some 7, .p (.faddr 1), [.t 6], none⟩,
     ⟨some 8, .l (.load none), [.t 7], none⟩,
     ⟨some 9, .i (.call 100), [.t 8], none⟩,
     ⟨some 3, .p (.mv), [.c (.int .i64 (.ofNat 0))], none⟩,
     ⟨some 4, .p (.mv), [.t 9], none⟩])
   (.seq (.seq (.region [
       ⟨some 10, .p (.mv), [.t 0], none⟩,
       ⟨some 11, .p (.nilchk), [.t 10], none⟩,
       ⟨some 12, .p (.faddr 3), [.t 11], none⟩,
       ⟨some 13, .l (.load none), [.t 12], none⟩])
     (.block 0 (.seq (.region [
         ⟨some 15, .p (.bin .eql), [.t 13, .c (.int .i64 (.ofNat 0))], none⟩,
         ⟨some 14, .p (.mv), [.t 15], none⟩])
       (.cond (.t 14)
        (.goto 0)
        (.seq (.region [
           ⟨some 17, .p (.bin .eql), [.t 13, .c (.int .i64 (.ofNat 3))], none⟩,
           ⟨some 16, .p (.mv), [.t 17], none⟩])
         (.cond (.t 16)
          (.region [
            ⟨some 18, .p (.mv), [.t 0], none⟩,
            ⟨some 19, .p (.nilchk), [.t 18], none⟩,
            ⟨some 20, .p (.faddr 0), [.t 19], none⟩,
            ⟨some 21, .l (.load none), [.t 20], none⟩,
            ⟨some 22, .p (.mv), [.t 4], none⟩,
            ⟨some 23, .i (.call 93), [.t 21, .t 22], none⟩,
            ⟨some 3, .p (.mv), [.t 23], none⟩])
          (.seq (.region [
             ⟨some 25, .p (.bin .eql), [.t 13, .c (.int .i64 (.ofNat 2))], none⟩,
             ⟨some 24, .p (.mv), [.t 25], none⟩])
           (.cond (.t 24)
            (.draw (.q ⟨some 26, .p (.mv), [.t 0], none⟩ (.q ⟨some 27, .p (.nilchk), [.t 26], none⟩ (.q ⟨some 28, .p (.faddr 0), [.t 27], none⟩ (.q ⟨some 29, .l (.load none), [.t 28], none⟩ (.q ⟨some 30, .p (.mv), [.t 4], none⟩ (.q ⟨some 31, .p (.mv), [.t 0], none⟩ (.q ⟨some 32, .p (.nilchk), [.t 31], none⟩ (.q ⟨some 33, .p (.faddr 2), [.t 32], none⟩ (.q ⟨some 34, .l (.load none), [.t 33], none⟩ (.e ⟨some 35, .i (.call 101), [.t 29, .t 30, .t 34], none⟩ [] (.q ⟨some 3, .p (.mv), [.t 35], none⟩ (.done)))))))))))))
            (.skip)))))))))
    (.seq (.seq (.region [
        ⟨some 36, .p (.mv), [.t 3], none⟩,
        ⟨some 37, .p (.bin .neq), [.t 36, .c (.int .i64 (.ofNat 0))], none⟩])
      (.cond (.t 37)
       (.goto 0)
       (.skip)))
     (.seq (.region [
        ⟨some 38, .p (.mv), [.t 0], none⟩,
        ⟨some 39, .p (.nilchk), [.t 38], none⟩,
        ⟨some 40, .p (.faddr 3), [.t 39], none⟩,
        ⟨none, .i (.store 1), [.t 40, .c (.int .i64 (.ofNat 1))], none⟩])
      (.seq (.seq (.region [
          ⟨some 41, .p (.mv), [.t 0], none⟩,
          ⟨some 42, .p (.nilchk), [.t 41], none⟩,
          ⟨some 43, .p (.faddr 0), [.t 42], none⟩,
          ⟨some 44, .l (.load none), [.t 43], none⟩,
          ⟨some 45, .p (.mv), [.t 4], none⟩,
          ⟨some 46, .i (.call 97), [.t 44, .t 45], none⟩,
          ⟨some 3, .p (.mv), [.t 46], none⟩])
        (.seq (.region [
           ⟨some 47, .p (.mv), [.t 3], none⟩,
           ⟨some 48, .p (.bin .neq), [.t 47, .c (.int .i64 (.ofNat 0))], none⟩])
         (.cond (.t 48)
          (.goto 0)
          (.skip))))
       (.seq (.seq (.region [
           ⟨some 49, .p (.mv), [.t 0], none⟩,
           ⟨some 50, .p (.nilchk), [.t 49], none⟩,
           ⟨some 51, .p (.faddr 0), [.t 50], none⟩,
           ⟨some 52, .l (.load none), [.t 51], none⟩,
           ⟨some 53, .i (.call 73), [.t 52], none⟩,
           ⟨some 3, .p (.mv), [.t 53], none⟩])
         (.seq (.region [
            ⟨some 54, .p (.mv), [.t 3], none⟩,
            ⟨some 55, .p (.bin .neq), [.t 54, .c (.int .i64 (.ofNat 0))], none⟩])
          (.cond (.t 55)
           (.goto 0)
           (.skip))))
        (.seq (.region [
           ⟨some 56, .p (.mv), [.t 0], none⟩,
           ⟨some 57, .p (.nilchk), [.t 56], none⟩,
           ⟨some 58, .p (.faddr 3), [.t 57], none⟩,
           ⟨none, .i (.store 1), [.t 58, .c (.int .i64 (.ofNat 0))], none⟩])
         (.seq (.label 0)
          (.seq (.region [
             ⟨some 59, .p (.mv), [.t 3], none⟩,
             ⟨some 2, .p (.mv), [.t 59], none⟩])
           (.ret))))))))))), 60, [.t 2]⟩

/- varve/cal.Horizon -/
def a44 : AFunc := ⟨.seq (.region [
   ⟨some 3, .i (.box 5), [.t 0], none⟩,
   ⟨some 6, .p (.mv), [.c (.int .i64 (.ofNat 0))], none⟩])
 (.seq (.region [
    ⟨some 9, .p (.mv), [.t 1], none⟩,
    ⟨some 10, .p (.mv), [.t 1], none⟩,
    ⟨some 11, .i (.call 102), [.t 10, .c (.int .i64 (.ofNat 8640))], none⟩,
    ⟨some 12, .p (.bin .sub), [.t 9, .t 11], none⟩,
    ⟨some 13, .p (.bin .quo), [.t 12, .c (.int .i64 (.ofNat 8640))], none⟩,
    ⟨some 7, .p (.mv), [.t 13], none⟩])
  (.seq (.region [
     ⟨some 14, .p (.mv), [.t 2], none⟩,
     ⟨some 15, .p (.mn), [.t 14, .c (.int .i64 (.ofNat 3))], none⟩,
     ⟨some 16, .p (.mx), [.c (.int .i64 (.ofNat 0)), .t 15], none⟩,
     ⟨some 17, .p (.faddr 1), [.t 3], none⟩,
     ⟨some 18, .p (.iaddrA 4 1), [.t 17, .t 16], none⟩,
     ⟨some 19, .l (.load none), [.t 18], none⟩,
     ⟨some 8, .p (.mv), [.t 19], none⟩])
   (.seq (.seq (.region [
       ⟨some 20, .p (.mv), [.t 7], none⟩,
       ⟨some 21, .p (.mv), [.t 8], none⟩,
       ⟨some 22, .p (.bin .leq), [.t 20, .t 21], none⟩])
     (.cond (.t 22)
      (.seq (.region [
         ⟨some 6, .p (.mv), [.c (.int .i64 (.ofNat 0))], none⟩])
       (.ret))
      (.skip)))
    (.seq (.region [
       ⟨some 23, .p (.mv), [.t 7], none⟩,
       ⟨some 24, .p (.mv), [.t 8], none⟩,
       ⟨some 25, .p (.bin .sub), [.t 23, .t 24], none⟩,
       ⟨some 26, .i (.call 103), [.t 25], none⟩,
       ⟨some 6, .p (.mv), [.t 26], none⟩])
     (.ret))))), 27, [.t 6]⟩

/- varve/cal.Coarsest -/
def a45 : AFunc := ⟨.seq (.region [
   ⟨some 4, .p (.mv), [.c (.int .i64 (.ofNat 0))], none⟩])
 (.seq (.region [
    ⟨some 5, .p (.mv), [.c (.int .i64 (.ofNat 0))], none⟩])
  (.seq (.seq (.region [
      ⟨some 7, .p (.mv), [.c (.int .i64 (.ofNat 0))], none⟩])
    (.block 0 (.loop (.seq (.region [
         ⟨some 8, .p (.bin .lss), [.t 7, .c (.int .i64 (.ofNat 4))], none⟩])
       (.seq (.cond (.t 8)
         (.skip)
         (.exit 0))
        (.seq (.block 1 (.seq (.region [
             ⟨some 9, .p (.mv), [.t 7], none⟩,
             ⟨some 6, .p (.mv), [.t 9], none⟩])
           (.seq (.region [
              ⟨some 10, .p (.mv), [.t 0], none⟩,
              ⟨some 11, .p (.mv), [.t 6], none⟩,
              ⟨some 12, .i (.call 104), [.t 11], none⟩,
              ⟨some 13, .p (.bin .rem), [.t 10, .t 12], none⟩,
              ⟨some 14, .p (.bin .eql), [.t 13, .c (.int .i64 (.ofNat 0))], none⟩,
              ⟨some 15, .p (.mv), [.t 14], none⟩,
              ⟨some 16, .p (.mv), [.t 1], some (15, true)⟩,
              ⟨some 17, .p (.mv), [.t 6], some (15, true)⟩,
              ⟨some 18, .i (.call 104), [.t 17], some (15, true)⟩,
              ⟨some 19, .p (.bin .rem), [.t 16, .t 18], some (15, true)⟩,
              ⟨some 20, .p (.bin .eql), [.t 19, .c (.int .i64 (.ofNat 0))], some (15, true)⟩,
              ⟨some 21, .p (.pick), [.t 15, .t 20, .c (.bool false)], none⟩])
            (.cond (.t 21)
             (.region [
               ⟨some 22, .p (.mv), [.t 6], none⟩,
               ⟨some 5, .p (.mv), [.t 22], none⟩])
             (.skip)))))
         (.region [
           ⟨some 23, .p (.bin .add), [.t 7, .c (.int .i64 (.ofNat 1))], none⟩,
           ⟨some 7, .p (.mv), [.t 23], none⟩])))))))
   (.seq (.region [
      ⟨some 24, .p (.mv), [.t 5], none⟩,
      ⟨some 4, .p (.mv), [.t 24], none⟩])
    (.ret)))), 25, [.t 4]⟩

/- varve/match.own -/
def a46 : AFunc := ⟨.seq (.region [
   ⟨some 1, .i (.box 5), [.t 0], none⟩,
   ⟨some 2, .i (.alloc [(1, .int .i64 (.ofNat 0)), (1, .str []), (1, .str []), (1, .list .full 1 []), (1, .list .full 5 [])]), [], none⟩])
 (.seq (.region [
    ⟨some 6, .p (.faddr 3), [.t 1], none⟩,
    ⟨some 7, .l (.load none), [.t 6], none⟩,
    ⟨some 8, .i (.append 1 16), [.c (.list .full 1 []), .t 7], none⟩,
    ⟨some 9, .p (.faddr 3), [.t 1], none⟩,
    ⟨none, .i (.store 1), [.t 9, .t 8], none⟩])
  (.seq (.region [
     ⟨some 3, .p (.mv), [.c (.list .full 5 [])], none⟩])
   (.seq (.seq (.region [
       ⟨some 10, .p (.faddr 4), [.t 1], none⟩,
       ⟨some 11, .l (.load none), [.t 10], none⟩,
       ⟨some 12, .p (.lenL), [.t 11], none⟩,
       ⟨some 13, .p (.mv), [.c (.int .i64 (.ofNat 0))], none⟩])
     (.block 0 (.loop (.seq (.region [
          ⟨some 14, .p (.bin .lss), [.t 13, .t 12], none⟩])
        (.seq (.cond (.t 14)
          (.skip)
          (.exit 0))
         (.seq (.block 1 (.seq (.region [
              ⟨some 15, .p (.iaddr 5), [.t 11, .t 13], none⟩,
              ⟨some 16, .l (.load (some 5)), [.t 15], none⟩,
              ⟨some 5, .i (.alloc [(1, .int .i64 (.ofNat 0)), (1, .str []), (1, .str []), (1, .list .full 1 []), (1, .list .full 5 [])]), [], none⟩,
              ⟨none, .i (.store 5), [.t 5, .t 16], none⟩])
            (.region [
              ⟨some 17, .p (.mv), [.t 3], none⟩,
              ⟨some 18, .l (.load (some 5)), [.t 5], none⟩,
              ⟨some 19, .i (.call 46), [.t 18], none⟩,
              ⟨some 20, .p (.bsl 5 1 true [(1, .int .i64 (.ofNat 0)), (1, .str []), (1, .str []), (1, .list .full 1 []), (1, .list .full 5 [])] [(0, 5)]), [.t 19], none⟩,
              ⟨some 21, .i (.append 5 88), [.t 17, .t 20], none⟩,
              ⟨some 3, .p (.mv), [.t 21], none⟩])))
          (.region [
            ⟨some 22, .p (.bin .add), [.t 13, .c (.int .i64 (.ofNat 1))], none⟩,
            ⟨some 13, .p (.mv), [.t 22], none⟩])))))))
    (.seq (.region [
       ⟨some 23, .p (.mv), [.t 3], none⟩,
       ⟨some 24, .p (.faddr 4), [.t 1], none⟩,
       ⟨none, .i (.store 1), [.t 24, .t 23], none⟩])
     (.seq (.region [
        ⟨some 25, .l (.load (some 5)), [.t 1], none⟩,
        ⟨none, .i (.store 5), [.t 2, .t 25], none⟩])
      (.ret)))))), 26, [.cell 2 (some 5)]⟩

/- varve/rows.May -/
def a47 : AFunc := ⟨.seq (.region [
   ⟨some 1, .i (.box 8), [.t 0], none⟩,
   ⟨some 2, .p (.mv), [.c (.bool false)], none⟩])
 (.seq (.region [
    ⟨some 3, .p (.faddr 0), [.t 1], none⟩,
    ⟨some 4, .l (.load none), [.t 3], none⟩,
    ⟨some 5, .i (.call 30), [.t 4], none⟩,
    ⟨some 6, .p (.mv), [.t 5], none⟩,
    ⟨some 7, .p (.faddr 2), [.t 1], some (6, true)⟩,
    ⟨some 8, .l (.load (some 6)), [.t 7], some (6, true)⟩,
    ⟨some 9, .i (.call 105), [.t 8], some (6, true)⟩,
    ⟨some 10, .p (.pick), [.t 6, .t 9, .c (.bool false)], none⟩,
    ⟨some 2, .p (.mv), [.t 10], none⟩])
  (.ret)), 11, [.t 2]⟩

/- varve/match.Eval -/
def a48 : AFunc := ⟨.seq (.region [
   ⟨some 2, .i (.box 5), [.t 0], none⟩,
   ⟨some 4, .p (.mv), [.c (.bool false)], none⟩])
 (.seq (.region [
    ⟨some 5, .l (.load (some 5)), [.t 2], none⟩,
    ⟨some 6, .i (.call 34), [.t 5], none⟩,
    ⟨some 7, .p (.mv), [.t 6], none⟩,
    ⟨some 8, .l (.load (some 5)), [.t 2], some (7, true)⟩,
    ⟨some 9, .p (.mv), [.t 1], some (7, true)⟩,
    ⟨some 10, .i (.call 106), [.t 8, .t 9], some (7, true)⟩,
    ⟨some 11, .p (.pick), [.t 7, .t 10, .c (.bool false)], none⟩,
    ⟨some 4, .p (.mv), [.t 11], none⟩])
  (.ret)), 12, [.t 4]⟩

/- (*varve/mem.Mem).Shared -/
def a49 : AFunc := ⟨.seq (.region [
   ⟨some 2, .p (.mv), [.c (.list .full 8 [])], none⟩])
 (.seq (.region [
    ⟨some 3, .p (.mv), [.c (.list .full 8 [])], none⟩])
  (.seq (.seq (.region [
      ⟨some 6, .p (.mv), [.t 0], none⟩,
      ⟨some 7, .p (.isnil .ptr false), [.t 6], none⟩])
    (.cond (.t 7)
     (.seq (.region [
        ⟨some 8, .p (.mv), [.t 3], none⟩,
        ⟨some 2, .p (.mv), [.t 8], none⟩])
      (.ret))
     (.skip)))
   (.seq (.seq (.region [
       ⟨some 9, .p (.mv), [.t 0], none⟩,
       ⟨some 10, .p (.nilchk), [.t 9], none⟩,
       ⟨some 11, .p (.faddr 0), [.t 10], none⟩,
       ⟨some 12, .l (.load none), [.t 11], none⟩,
       ⟨some 13, .i (.range), [.t 12], none⟩])
     (.block 0 (.loop (.seq (.region [
          ⟨some 14, .i (.next), [.t 13], none⟩,
          ⟨some 15, .p (.ext 0), [.t 14], none⟩])
        (.seq (.cond (.t 15)
          (.skip)
          (.exit 0))
         (.block 1 (.seq (.region [
             ⟨some 16, .l (.entry), [.t 13], none⟩,
             ⟨some 17, .p (.ext 1), [.t 16], none⟩,
             ⟨some 5, .i (.alloc [(1, .list .full 2 []), (1, .int .i64 (.ofNat 0)), (1, .list .full 2 []), (1, .list .full 1 []), (1, .int .u64 (.ofNat 0)), (1, .int .u64 (.ofNat 0)), (1, .int .u64 (.ofNat 0)), (1, .int .u64 (.ofNat 0))]), [], none⟩,
             ⟨none, .i (.store 8), [.t 5, .t 17], none⟩])
           (.region [
             ⟨some 18, .p (.mv), [.t 3], none⟩,
             ⟨some 19, .l (.load (some 8)), [.t 5], none⟩,
             ⟨some 20, .p (.bsl 8 1 true [(1, .list .full 2 []), (1, .int .i64 (.ofNat 0)), (1, .list .full 2 []), (1, .list .full 1 []), (1, .int .u64 (.ofNat 0)), (1, .int .u64 (.ofNat 0)), (1, .int .u64 (.ofNat 0)), (1, .int .u64 (.ofNat 0))] [(0, 8)]), [.t 19], none⟩,
             ⟨some 21, .i (.append 8 112), [.t 18, .t 20], none⟩,
             ⟨some 3, .p (.mv), [.t 21], none⟩]))))))))
    (.seq (.region [
       ⟨some 22, .p (.mv), [.t 3], none⟩,
       ⟨some 23, .i (.call 107), [.t 22, .c (.fn (.func 108) [] [])], none⟩])
     (.seq (.region [
        ⟨some 24, .p (.mv), [.t 3], none⟩,
        ⟨some 2, .p (.mv), [.t 24], none⟩])
      (.ret)))))), 25, [.t 2]⟩

/- varve/pair.Sum -/
def a51 : AFunc := ⟨.seq (.region [
   ⟨some 2, .i (.alloc [(1, .list .full 2 []), (1, .list .full 1 []), (1, .int .u64 (.ofNat 0)), (1, .int .u64 (.ofNat 0)), (1, .int .u64 (.ofNat 0)), (1, .int .u64 (.ofNat 0))]), [], none⟩,
   ⟨some 3, .p (.mv), [.c (.int .i64 (.ofNat 0))], none⟩])
 (.seq (.region [
    ⟨some 9, .i (.call 56), [], none⟩,
    ⟨some 10, .i (.call 57), [], none⟩,
    ⟨some 11, .p (.build [(1, .int .u64 (.ofNat 0)), (1, .int .u64 (.ofNat 0)), (1, .int .u64 (.ofNat 0)), (1, .int .u64 (.ofNat 0))] []), [], none⟩,
    ⟨some 6, .i (.alloc [(1, .int .u64 (.ofNat 0)), (1, .int .u64 (.ofNat 0)), (1, .int .u64 (.ofNat 0)), (1, .int .u64 (.ofNat 0))]), [], none⟩,
    ⟨some 4, .p (.mv), [.t 9], none⟩,
    ⟨some 5, .p (.mv), [.t 10], none⟩,
    ⟨none, .i (.store 4), [.t 6, .t 11], none⟩])
  (.seq (.seq (.region [
      ⟨some 12, .p (.mv), [.t 0], none⟩,
      ⟨some 13, .p (.lenL), [.t 12], none⟩,
      ⟨some 14, .p (.mv), [.c (.int .i64 (.ofNat 0))], none⟩])
    (.block 0 (.loop (.seq (.region [
         ⟨some 15, .p (.bin .lss), [.t 14, .t 13], none⟩])
       (.seq (.cond (.t 15)
         (.skip)
         (.exit 0))
        (.seq (.block 1 (.seq (.region [
             ⟨some 16, .p (.iaddr 6), [.t 12, .t 14], none⟩,
             ⟨some 17, .l (.load (some 6)), [.t 16], none⟩,
             ⟨some 8, .i (.alloc [(1, .list .full 2 []), (1, .list .full 1 []), (1, .int .u64 (.ofNat 0)), (1, .int .u64 (.ofNat 0)), (1, .int .u64 (.ofNat 0)), (1, .int .u64 (.ofNat 0))]), [], none⟩,
             ⟨none, .i (.store 6), [.t 8, .t 17], none⟩])
           (.seq (.seq (.region [
               ⟨some 18, .l (.load (some 6)), [.t 8], none⟩,
               ⟨some 19, .i (.call 105), [.t 18], none⟩,
               ⟨some 20, .p (.un .not), [.t 19], none⟩])
             (.cond (.t 20)
              (.seq (.region [
                 ⟨some 21, .p (.build [(1, .list .full 2 []), (1, .list .full 1 []), (1, .int .u64 (.ofNat 0)), (1, .int .u64 (.ofNat 0)), (1, .int .u64 (.ofNat 0)), (1, .int .u64 (.ofNat 0))] []), [], none⟩,
                 ⟨none, .i (.store 6), [.t 2, .t 21], none⟩,
                 ⟨some 3, .p (.mv), [.c (.int .i64 (.ofNat 5))], none⟩])
               (.ret))
              (.skip)))
            (.seq (.region [
               ⟨some 22, .p (.mv), [.t 4], none⟩,
               ⟨some 23, .p (.faddr 0), [.t 8], none⟩,
               ⟨some 24, .l (.load none), [.t 23], none⟩,
               ⟨some 25, .i (.call 111), [.t 22, .t 24], none⟩])
             (.seq (.region [
                ⟨some 26, .p (.mv), [.t 5], none⟩,
                ⟨some 27, .p (.faddr 1), [.t 8], none⟩,
                ⟨some 28, .l (.load none), [.t 27], none⟩,
                ⟨some 29, .i (.call 112), [.t 26, .t 28], none⟩])
              (.region [
                ⟨some 30, .l (.load (some 4)), [.t 6], none⟩,
                ⟨some 31, .p (.faddr 2), [.t 8], none⟩,
                ⟨some 32, .l (.load (some 4)), [.t 31], none⟩,
                ⟨some 33, .i (.call 113), [.t 30, .t 32], none⟩,
                ⟨none, .i (.store 4), [.t 6, .t 33], none⟩]))))))
         (.region [
           ⟨some 34, .p (.bin .add), [.t 14, .c (.int .i64 (.ofNat 1))], none⟩,
           ⟨some 14, .p (.mv), [.t 34], none⟩])))))))
   (.seq (.draw (.q ⟨some 35, .p (.mv), [.t 4], none⟩ (.q ⟨some 37, .p (.mv), [.t 5], none⟩ (.q ⟨some 39, .l (.load (some 4)), [.t 6], none⟩ (.e ⟨some 36, .i (.call 61), [.t 35], none⟩ [⟨some 39, .l (.load (some 4)), [.t 6], none⟩] (.e ⟨some 38, .i (.call 62), [.t 37], none⟩ [⟨some 39, .l (.load (some 4)), [.t 6], none⟩] (.q ⟨some 40, .p (.build [(1, .list .full 2 []), (1, .list .full 1 []), (1, .int .u64 (.ofNat 0)), (1, .int .u64 (.ofNat 0)), (1, .int .u64 (.ofNat 0)), (1, .int .u64 (.ofNat 0))] [(0, 1), (1, 1), (2, 4)]), [.t 36, .t 38, .t 39], none⟩ (.e ⟨none, .i (.store 6), [.t 2, .t 40], none⟩ [] (.q ⟨some 3, .p (.mv), [.c (.int .i64 (.ofNat 0))], none⟩ (.done))))))))))
    (.ret)))), 41, [.cell 2 (some 6), .t 3]⟩

/- varve/query.One -/
def a52 : AFunc := ⟨.seq (.region [
   ⟨some 2, .i (.box 11), [.t 0], none⟩,
   ⟨some 3, .i (.box 6), [.t 1], none⟩,
   ⟨some 4, .i (.alloc [(1, .int .i64 (.ofNat 0)), (1, .bool false), (1, .int .u64 (.ofNat 0)), (1, .int .i64 (.ofNat 0))]), [], none⟩])
 (.seq (.region [
    ⟨some 5, .i (.alloc [(1, .int .i64 (.ofNat 0)), (1, .bool false), (1, .int .u64 (.ofNat 0)), (1, .int .i64 (.ofNat 0))]), [], none⟩])
  (.seq (.region [
     ⟨some 9, .p (.faddr 0), [.t 3], none⟩,
     ⟨some 10, .l (.load none), [.t 9], none⟩,
     ⟨some 11, .i (.call 114), [.t 10], none⟩,
     ⟨some 8, .p (.mv), [.t 11], none⟩,
     ⟨some 12, .p (.ext 0), [.t 8], none⟩,
     ⟨some 13, .p (.ext 1), [.t 8], none⟩,
     ⟨some 6, .p (.mv), [.t 12], none⟩,
     ⟨some 7, .p (.mv), [.t 13], none⟩])
   (.seq (.seq (.region [
       ⟨some 14, .p (.mv), [.t 7], none⟩,
       ⟨some 15, .p (.bin .neq), [.t 14, .c (.int .i64 (.ofNat 0))], none⟩,
       ⟨some 16, .p (.mv), [.t 15], none⟩,
       ⟨some 17, .p (.faddr 1), [.t 3], some (16, false)⟩,
       ⟨some 18, .l (.load none), [.t 17], some (16, false)⟩,
       ⟨some 19, .i (.call 115), [.t 18], some (16, false)⟩,
       ⟨some 20, .p (.un .not), [.t 19], some (16, false)⟩,
       ⟨some 21, .p (.pick), [.t 16, .c (.bool true), .t 20], none⟩,
       ⟨some 22, .p (.mv), [.t 21], none⟩,
       ⟨some 23, .p (.faddr 2), [.t 3], some (22, false)⟩,
       ⟨some 24, .l (.load (some 4)), [.t 23], some (22, false)⟩,
       ⟨some 25, .i (.call 116), [.t 24], some (22, false)⟩,
       ⟨some 26, .p (.un .not), [.t 25], some (22, false)⟩,
       ⟨some 27, .p (.pick), [.t 22, .c (.bool true), .t 26], none⟩])
     (.cond (.t 27)
      (.seq (.region [
         ⟨some 28, .l (.load (some 4)), [.t 5], none⟩,
         ⟨none, .i (.store 4), [.t 4, .t 28], none⟩])
       (.ret))
      (.skip)))
    (.seq (.seq (.region [
        ⟨some 29, .p (.faddr 8), [.t 2], none⟩,
        ⟨some 30, .l (.load none), [.t 29], none⟩])
      (.block 0 (.seq (.region [
          ⟨some 32, .p (.bin .eql), [.t 30, .c (.int .i64 (.ofNat 1))], none⟩,
          ⟨some 31, .p (.mv), [.t 32], none⟩])
        (.cond (.t 31)
         (.seq (.region [
            ⟨some 34, .p (.mv), [.t 6], none⟩,
            ⟨some 35, .i (.call 117), [.t 34], none⟩,
            ⟨some 33, .p (.mv), [.t 35], none⟩,
            ⟨some 36, .p (.ext 0), [.t 33], none⟩,
            ⟨some 37, .p (.ext 1), [.t 33], none⟩,
            ⟨some 38, .p (.faddr 2), [.t 5], none⟩,
            ⟨none, .i (.store 1), [.t 38, .t 36], none⟩,
            ⟨some 39, .p (.faddr 3), [.t 5], none⟩,
            ⟨none, .i (.store 1), [.t 39, .t 37], none⟩])
          (.region [
            ⟨some 40, .p (.faddr 3), [.t 5], none⟩,
            ⟨some 41, .l (.load none), [.t 40], none⟩,
            ⟨some 42, .p (.bin .eql), [.t 41, .c (.int .i64 (.ofNat 0))], none⟩,
            ⟨some 43, .p (.faddr 1), [.t 5], none⟩,
            ⟨none, .i (.store 1), [.t 43, .t 42], none⟩]))
         (.seq (.region [
            ⟨some 45, .p (.bin .eql), [.t 30, .c (.int .i64 (.ofNat 2))], none⟩,
            ⟨some 44, .p (.mv), [.t 45], none⟩])
          (.cond (.t 44)
           (.seq (.region [
              ⟨some 47, .p (.mv), [.t 6], none⟩,
              ⟨some 48, .p (.faddr 9), [.t 2], none⟩,
              ⟨some 49, .l (.load none), [.t 48], none⟩,
              ⟨some 50, .p (.faddr 10), [.t 2], none⟩,
              ⟨some 51, .l (.load none), [.t 50], none⟩,
              ⟨some 52, .i (.call 118), [.t 47, .t 49, .t 51], none⟩,
              ⟨some 46, .p (.mv), [.t 52], none⟩,
              ⟨some 53, .p (.ext 0), [.t 46], none⟩,
              ⟨some 54, .p (.ext 1), [.t 46], none⟩,
              ⟨some 55, .p (.faddr 2), [.t 5], none⟩,
              ⟨none, .i (.store 1), [.t 55, .t 53], none⟩,
              ⟨some 56, .p (.faddr 3), [.t 5], none⟩,
              ⟨none, .i (.store 1), [.t 56, .t 54], none⟩])
            (.seq (.region [
               ⟨some 57, .p (.faddr 3), [.t 5], none⟩,
               ⟨some 58, .l (.load none), [.t 57], none⟩,
               ⟨some 59, .p (.bin .eql), [.t 58, .c (.int .i64 (.ofNat 0))], none⟩,
               ⟨some 60, .p (.faddr 1), [.t 5], none⟩,
               ⟨none, .i (.store 1), [.t 60, .t 59], none⟩])
             (.seq (.region [
                ⟨some 61, .p (.faddr 3), [.t 5], none⟩,
                ⟨some 62, .l (.load none), [.t 61], none⟩,
                ⟨some 63, .p (.bin .eql), [.t 62, .c (.int .i64 (.ofNat 3))], none⟩])
              (.cond (.t 63)
               (.region [
                 ⟨some 64, .p (.faddr 3), [.t 5], none⟩,
                 ⟨none, .i (.store 1), [.t 64, .c (.int .i64 (.ofNat 0))], none⟩])
               (.skip)))))
           (.seq (.region [
              ⟨some 66, .p (.bin .eql), [.t 30, .c (.int .i64 (.ofNat 3))], none⟩,
              ⟨some 65, .p (.mv), [.t 66], none⟩])
            (.cond (.t 65)
             (.region [
               ⟨some 67, .p (.faddr 1), [.t 3], none⟩,
               ⟨some 68, .l (.load none), [.t 67], none⟩,
               ⟨some 69, .i (.call 119), [.t 68], none⟩,
               ⟨some 70, .p (.faddr 1), [.t 5], none⟩,
               ⟨none, .i (.store 1), [.t 70, .c (.bool true)], none⟩,
               ⟨some 71, .p (.faddr 2), [.t 5], none⟩,
               ⟨none, .i (.store 1), [.t 71, .t 69], none⟩])
             (.seq (.region [
                ⟨some 73, .p (.bin .eql), [.t 30, .c (.int .i64 (.ofNat 4))], none⟩,
                ⟨some 72, .p (.mv), [.t 73], none⟩])
              (.cond (.t 72)
               (.draw (.q ⟨some 74, .p (.faddr 2), [.t 3], none⟩ (.q ⟨some 75, .p (.faddr 0), [.t 74], none⟩ (.q ⟨some 76, .l (.load none), [.t 75], none⟩ (.q ⟨some 77, .p (.bin .gtr), [.t 76, .c (.int .u64 (.ofNat 0))], none⟩ (.q ⟨some 78, .p (.faddr 2), [.t 3], none⟩ (.q ⟨some 79, .p (.faddr 2), [.t 78], none⟩ (.q ⟨some 80, .l (.load none), [.t 79], none⟩ (.q ⟨some 81, .p (.faddr 1), [.t 5], none⟩ (.e ⟨none, .i (.store 1), [.t 81, .t 77], none⟩ [⟨some 80, .l (.load none), [.t 79], none⟩] (.q ⟨some 82, .p (.faddr 2), [.t 5], none⟩ (.e ⟨none, .i (.store 1), [.t 82, .t 80], none⟩ [] (.done)))))))))))))
               (.seq (.region [
                  ⟨some 84, .p (.bin .eql), [.t 30, .c (.int .i64 (.ofNat 5))], none⟩,
                  ⟨some 83, .p (.mv), [.t 84], none⟩])
                (.cond (.t 83)
                 (.draw (.q ⟨some 85, .p (.faddr 2), [.t 3], none⟩ (.q ⟨some 86, .p (.faddr 0), [.t 85], none⟩ (.q ⟨some 87, .l (.load none), [.t 86], none⟩ (.q ⟨some 88, .p (.bin .gtr), [.t 87, .c (.int .u64 (.ofNat 0))], none⟩ (.q ⟨some 89, .p (.faddr 2), [.t 3], none⟩ (.q ⟨some 90, .p (.faddr 3), [.t 89], none⟩ (.q ⟨some 91, .l (.load none), [.t 90], none⟩ (.q ⟨some 92, .p (.faddr 1), [.t 5], none⟩ (.e ⟨none, .i (.store 1), [.t 92, .t 88], none⟩ [⟨some 91, .l (.load none), [.t 90], none⟩] (.q ⟨some 93, .p (.faddr 2), [.t 5], none⟩ (.e ⟨none, .i (.store 1), [.t 93, .t 91], none⟩ [] (.done)))))))))))))
                 (.seq (.region [
                    ⟨some 95, .p (.bin .eql), [.t 30, .c (.int .i64 (.ofNat 6))], none⟩,
                    ⟨some 94, .p (.mv), [.t 95], none⟩])
                  (.cond (.t 94)
                   (.draw (.q ⟨some 96, .p (.faddr 2), [.t 3], none⟩ (.q ⟨some 97, .p (.faddr 1), [.t 96], none⟩ (.q ⟨some 98, .l (.load none), [.t 97], none⟩ (.q ⟨some 99, .p (.faddr 1), [.t 5], none⟩ (.e ⟨none, .i (.store 1), [.t 99, .c (.bool true)], none⟩ [⟨some 98, .l (.load none), [.t 97], none⟩] (.q ⟨some 100, .p (.faddr 2), [.t 5], none⟩ (.e ⟨none, .i (.store 1), [.t 100, .t 98], none⟩ [] (.done)))))))))
                   (.skip)))))))))))))))
     (.seq (.seq (.region [
         ⟨some 101, .p (.faddr 1), [.t 5], none⟩,
         ⟨some 102, .l (.load none), [.t 101], none⟩,
         ⟨some 103, .p (.un .not), [.t 102], none⟩])
       (.cond (.t 103)
        (.region [
          ⟨some 104, .p (.faddr 2), [.t 5], none⟩,
          ⟨none, .i (.store 1), [.t 104, .c (.int .u64 (.ofNat 0))], none⟩])
        (.skip)))
      (.seq (.region [
         ⟨some 105, .l (.load (some 4)), [.t 5], none⟩,
         ⟨none, .i (.store 4), [.t 4, .t 105], none⟩])
       (.ret))))))), 106, [.cell 4 (some 4)]⟩

/- varve/label.Name -/
def a53 : AFunc := ⟨.seq (.region [
   ⟨some 2, .p (.mv), [.c (.bool false)], none⟩])
 (.seq (.seq (.region [
     ⟨some 5, .p (.mv), [.t 0], none⟩,
     ⟨some 6, .p (.lenS), [.t 5], none⟩,
     ⟨some 7, .p (.bin .lss), [.t 6, .c (.int .i64 (.ofNat 1))], none⟩,
     ⟨some 8, .p (.mv), [.t 7], none⟩,
     ⟨some 9, .p (.mv), [.t 0], some (8, false)⟩,
     ⟨some 10, .p (.lenS), [.t 9], some (8, false)⟩,
     ⟨some 11, .p (.bin .gtr), [.t 10, .c (.int .i64 (.ofNat 32))], some (8, false)⟩,
     ⟨some 12, .p (.pick), [.t 8, .c (.bool true), .t 11], none⟩,
     ⟨some 13, .p (.mv), [.t 12], none⟩,
     ⟨some 14, .p (.mv), [.t 0], some (13, false)⟩,
     ⟨some 15, .p (.idxS), [.t 14, .c (.int .i64 (.ofNat 0))], some (13, false)⟩,
     ⟨some 16, .p (.bin .geq), [.t 15, .c (.int .u8 (.ofNat 48))], some (13, false)⟩,
     ⟨some 17, .p (.mv), [.t 16], some (13, false)⟩,
     ⟨some 18, .p (.mv), [.t 0], some (17, true)⟩,
     ⟨some 19, .p (.idxS), [.t 18, .c (.int .i64 (.ofNat 0))], some (17, true)⟩,
     ⟨some 20, .p (.bin .leq), [.t 19, .c (.int .u8 (.ofNat 57))], some (17, true)⟩,
     ⟨some 21, .p (.pick), [.t 17, .t 20, .c (.bool false)], some (13, false)⟩,
     ⟨some 22, .p (.pick), [.t 13, .c (.bool true), .t 21], none⟩])
   (.cond (.t 22)
    (.seq (.region [
       ⟨some 2, .p (.mv), [.c (.bool false)], none⟩])
     (.ret))
    (.skip)))
  (.seq (.seq (.region [
      ⟨some 23, .p (.mv), [.t 0], none⟩,
      ⟨some 24, .p (.lenS), [.t 23], none⟩,
      ⟨some 25, .p (.mv), [.c (.int .i64 (.ofNat 0))], none⟩])
    (.block 0 (.loop (.seq (.region [
         ⟨some 26, .p (.bin .lss), [.t 25, .t 24], none⟩])
       (.seq (.cond (.t 26)
         (.skip)
         (.exit 0))
        (.seq (.block 1 (.seq (.region [
             ⟨some 27, .p (.mv), [.t 25], none⟩,
             ⟨some 3, .p (.mv), [.t 27], none⟩])
           (.seq (.region [
              ⟨some 28, .p (.mv), [.t 0], none⟩,
              ⟨some 29, .p (.mv), [.t 3], none⟩,
              ⟨some 30, .p (.idxS), [.t 28, .t 29], none⟩,
              ⟨some 4, .p (.mv), [.t 30], none⟩])
            (.seq (.region [
               ⟨some 31, .p (.mv), [.t 4], none⟩,
               ⟨some 32, .p (.bin .lss), [.t 31, .c (.int .u8 (.ofNat 97))], none⟩,
               ⟨some 33, .p (.mv), [.t 32], none⟩,
               ⟨some 34, .p (.mv), [.t 4], some (33, false)⟩,
               ⟨some 35, .p (.bin .gtr), [.t 34, .c (.int .u8 (.ofNat 122))], some (33, false)⟩,
               ⟨some 36, .p (.pick), [.t 33, .c (.bool true), .t 35], none⟩,
               ⟨some 37, .p (.mv), [.t 36], none⟩,
               ⟨some 38, .p (.mv), [.t 4], some (37, true)⟩,
               ⟨some 39, .p (.bin .lss), [.t 38, .c (.int .u8 (.ofNat 48))], some (37, true)⟩,
               ⟨some 40, .p (.mv), [.t 39], some (37, true)⟩,
               ⟨some 41, .p (.mv), [.t 4], some (40, false)⟩,
               ⟨some 42, .p (.bin .gtr), [.t 41, .c (.int .u8 (.ofNat 57))], some (40, false)⟩,
               ⟨some 43, .p (.pick), [.t 40, .c (.bool true), .t 42], some (37, true)⟩,
               ⟨some 44, .p (.pick), [.t 37, .t 43, .c (.bool false)], none⟩,
               ⟨some 45, .p (.mv), [.t 44], none⟩,
               ⟨some 46, .p (.mv), [.t 4], some (45, true)⟩,
               ⟨some 47, .p (.bin .neq), [.t 46, .c (.int .u8 (.ofNat 95))], some (45, true)⟩,
               ⟨some 48, .p (.pick), [.t 45, .t 47, .c (.bool false)], none⟩])
             (.cond (.t 48)
              (.seq (.region [
                 ⟨some 2, .p (.mv), [.c (.bool false)], none⟩])
               (.ret))
              (.skip))))))
         (.region [
           ⟨some 49, .p (.bin .add), [.t 25, .c (.int .i64 (.ofNat 1))], none⟩,
           ⟨some 25, .p (.mv), [.t 49], none⟩])))))))
   (.seq (.region [
      ⟨some 2, .p (.mv), [.c (.bool true)], none⟩])
    (.ret)))), 50, [.t 2]⟩

/- (*varve/engine.Engine).crowded -/
def a54 : AFunc := ⟨.seq (.region [
   ⟨some 4, .p (.mv), [.c (.bool false)], none⟩])
 (.scope (.seq (.region [
     ⟨some 10, .p (.mv), [.t 1], none⟩,
     ⟨some 11, .i (.call 120), [.t 10], none⟩,
     ⟨some 5, .p (.mv), [.t 11], none⟩])
   (.seq (.region [
      ⟨some 12, .i (.mkmap), [], none⟩,
      ⟨some 6, .p (.mv), [.t 12], none⟩])
    (.seq (.label 0)
     (.seq (.seq (.region [
         ⟨some 13, .p (.mv), [.t 0], none⟩,
         ⟨some 14, .p (.nilchk), [.t 13], none⟩,
         ⟨some 15, .p (.faddr 7), [.t 14], none⟩,
         ⟨some 16, .l (.load none), [.t 15], none⟩,
         ⟨some 17, .i (.call 27), [.t 16], none⟩,
         ⟨some 18, .p (.lenL), [.t 17], none⟩,
         ⟨some 19, .p (.mv), [.c (.int .i64 (.ofNat 0))], none⟩])
       (.block 0 (.loop (.seq (.region [
            ⟨some 20, .p (.bin .lss), [.t 19, .t 18], none⟩])
          (.seq (.cond (.t 20)
            (.skip)
            (.exit 0))
           (.seq (.block 1 (.seq (.region [
                ⟨some 21, .p (.iaddr 8), [.t 17, .t 19], none⟩,
                ⟨some 22, .l (.load (some 8)), [.t 21], none⟩,
                ⟨some 8, .i (.alloc [(1, .list .full 2 []), (1, .int .i64 (.ofNat 0)), (1, .list .full 2 []), (1, .list .full 1 []), (1, .int .u64 (.ofNat 0)), (1, .int .u64 (.ofNat 0)), (1, .int .u64 (.ofNat 0)), (1, .int .u64 (.ofNat 0))]), [], none⟩,
                ⟨none, .i (.store 8), [.t 8, .t 22], none⟩])
              (.seq (.seq (.draw (.q ⟨some 23, .p (.mv), [.t 0], none⟩ (.q ⟨some 24, .p (.nilchk), [.t 23], none⟩ (.q ⟨some 25, .p (.faddr 1), [.t 24], none⟩ (.q ⟨some 26, .l (.load (some 5)), [.t 25], none⟩ (.q ⟨some 27, .p (.mv), [.t 0], none⟩ (.q ⟨some 28, .p (.nilchk), [.t 27], none⟩ (.q ⟨some 29, .p (.faddr 6), [.t 28], none⟩ (.q ⟨some 30, .l (.load none), [.t 29], none⟩ (.q ⟨some 31, .p (.faddr 1), [.t 8], none⟩ (.q ⟨some 32, .l (.load none), [.t 31], none⟩ (.q ⟨some 33, .p (.bin .quo), [.t 32, .c (.int .i64 (.ofNat 8640))], none⟩ (.e ⟨some 34, .i (.call 78), [.t 26, .t 30, .t 33], none⟩ [] (.q ⟨some 35, .p (.bin .eql), [.t 34, .c (.int .i64 (.ofNat 4))], none⟩ (.done)))))))))))))))
                (.cond (.t 35)
                 (.exit 1)
                 (.skip)))
               (.seq (.region [
                  ⟨some 36, .p (.faddr 0), [.t 8], none⟩,
                  ⟨some 37, .l (.load none), [.t 36], none⟩,
                  ⟨some 38, .i (.call 120), [.t 37], none⟩,
                  ⟨some 9, .p (.mv), [.t 38], none⟩])
                (.seq (.seq (.region [
                    ⟨some 39, .p (.mv), [.t 9], none⟩,
                    ⟨some 40, .p (.mv), [.t 5], none⟩,
                    ⟨some 41, .p (.bin .eql), [.t 39, .t 40], none⟩])
                  (.cond (.t 41)
                   (.seq (.region [
                      ⟨some 4, .p (.mv), [.c (.bool false)], none⟩])
                    (.ret))
                   (.skip)))
                 (.region [
                   ⟨some 42, .p (.mv), [.t 6], none⟩,
                   ⟨some 43, .p (.mv), [.t 9], none⟩,
                   ⟨none, .i (.mapset true), [.t 42, .t 43, .c (.int .i64 (.ofNat 1))], none⟩]))))))
            (.region [
              ⟨some 44, .p (.bin .add), [.t 19, .c (.int .i64 (.ofNat 1))], none⟩,
              ⟨some 19, .p (.mv), [.t 44], none⟩])))))))
      (.seq (.region [
         ⟨some 45, .p (.mv), [.t 6], none⟩,
         ⟨some 46, .l (.lenM), [.t 45], none⟩,
         ⟨some 47, .p (.bin .geq), [.t 46, .c (.int .i64 (.ofNat 64))], none⟩,
         ⟨some 4, .p (.mv), [.t 47], none⟩])
       (.ret))))))), 48, [.t 4]⟩

/- varve/rows.One -/
def a55 : AFunc := ⟨.seq (.region [
   ⟨some 1, .i (.box 8), [.t 0], none⟩,
   ⟨some 2, .i (.alloc [(1, .list .full 2 []), (1, .int .i64 (.ofNat 0)), (1, .list .full 2 []), (1, .list .full 1 []), (1, .int .u64 (.ofNat 0)), (1, .int .u64 (.ofNat 0)), (1, .int .u64 (.ofNat 0)), (1, .int .u64 (.ofNat 0))]), [], none⟩])
 (.seq (.region [
    ⟨some 3, .p (.faddr 0), [.t 1], none⟩,
    ⟨some 4, .l (.load none), [.t 3], none⟩,
    ⟨some 5, .i (.call 121), [.t 4], none⟩,
    ⟨some 6, .p (.faddr 0), [.t 1], none⟩,
    ⟨none, .i (.store 1), [.t 6, .t 5], none⟩])
  (.seq (.draw (.q ⟨some 7, .p (.faddr 2), [.t 1], none⟩ (.q ⟨some 8, .p (.faddr 0), [.t 7], none⟩ (.q ⟨some 9, .l (.load none), [.t 8], none⟩ (.q ⟨some 11, .p (.faddr 2), [.t 1], none⟩ (.q ⟨some 12, .p (.faddr 1), [.t 11], none⟩ (.q ⟨some 13, .l (.load none), [.t 12], none⟩ (.e ⟨some 10, .i (.call 122), [.t 9], none⟩ [⟨some 13, .l (.load none), [.t 12], none⟩] (.q ⟨some 15, .p (.faddr 2), [.t 1], none⟩ (.q ⟨some 16, .p (.faddr 0), [.t 15], none⟩ (.e ⟨some 14, .i (.call 123), [.t 13], none⟩ [] (.e ⟨none, .i (.store 1), [.t 16, .t 10], none⟩ [] (.q ⟨some 17, .p (.faddr 2), [.t 1], none⟩ (.q ⟨some 18, .p (.faddr 1), [.t 17], none⟩ (.e ⟨none, .i (.store 1), [.t 18, .t 14], none⟩ [] (.done))))))))))))))))
   (.seq (.region [
      ⟨some 19, .l (.load (some 8)), [.t 1], none⟩,
      ⟨none, .i (.store 8), [.t 2, .t 19], none⟩])
    (.ret)))), 20, [.cell 2 (some 8)]⟩

/- varve/hist.New -/
def a56 : AFunc := ⟨.seq (.region [
   ⟨some 0, .p (.mv), [.c (.nilp)], none⟩])
 (.seq (.region [
    ⟨some 2, .p (.build [(7424, .int .u64 (.ofNat 0))] []), [], none⟩,
    ⟨some 3, .i (.box 7424), [.t 2], none⟩,
    ⟨some 1, .p (.mv), [.t 3], none⟩])
  (.seq (.region [
     ⟨some 4, .p (.mv), [.t 1], none⟩,
     ⟨some 5, .p (.nilchk), [.t 4], none⟩,
     ⟨some 6, .p (.faddr 0), [.t 5], none⟩,
     ⟨some 7, .l (.slA 7424 1 false false false), [.t 6], none⟩,
     ⟨none, .i (.clearL [(1, .int .u64 (.ofNat 0))]), [.t 7], none⟩])
   (.seq (.region [
      ⟨some 8, .p (.mv), [.t 1], none⟩,
      ⟨some 0, .p (.mv), [.t 8], none⟩])
    (.ret)))), 9, [.t 0]⟩

/- varve/kmv.New -/
def a57 : AFunc := ⟨.seq (.region [
   ⟨some 0, .p (.mv), [.c (.nilp)], none⟩])
 (.seq (.region [
    ⟨some 1, .i (.mkmap), [], none⟩,
    ⟨some 2, .p (.build [(1, .nilm), (1, .int .u64 (.ofNat 0))] [(0, 1)]), [.t 1], none⟩,
    ⟨some 3, .i (.box 2), [.t 2], none⟩,
    ⟨some 0, .p (.mv), [.t 3], none⟩])
  (.ret)), 4, [.t 0]⟩

/- (*varve/hist.Hist).Add -/
def a58 : AFunc := ⟨.seq (.region [
   ⟨some 7, .p (.mv), [.t 0], none⟩,
   ⟨some 8, .p (.isnil .ptr true), [.t 7], none⟩])
 (.cond (.t 8)
  (.seq (.region [
     ⟨some 9, .p (.mv), [.t 1], none⟩,
     ⟨some 10, .i (.call 124), [.t 9], none⟩,
     ⟨some 6, .p (.mv), [.t 10], none⟩])
   (.draw (.q ⟨some 11, .p (.mv), [.t 0], none⟩ (.q ⟨some 12, .p (.mv), [.t 6], none⟩ (.q ⟨some 13, .p (.mv), [.t 0], none⟩ (.q ⟨some 14, .p (.mv), [.t 6], none⟩ (.q ⟨some 15, .p (.nilchk), [.t 13], none⟩ (.q ⟨some 16, .p (.faddr 0), [.t 15], none⟩ (.q ⟨some 17, .p (.iaddrA 7424 1), [.t 16, .t 14], none⟩ (.q ⟨some 18, .l (.load none), [.t 17], none⟩ (.q ⟨some 19, .p (.mv), [.t 2], none⟩ (.q ⟨some 21, .p (.nilchk), [.t 11], none⟩ (.q ⟨some 22, .p (.faddr 0), [.t 21], none⟩ (.e ⟨some 20, .i (.call 125), [.t 18, .t 19], none⟩ [] (.q ⟨some 23, .p (.iaddrA 7424 1), [.t 22, .t 12], none⟩ (.e ⟨none, .i (.store 1), [.t 23, .t 20], none⟩ [] (.done)))))))))))))))))
  (.skip)), 24, []⟩

/- (*varve/kmv.Kmv).Add -/
def a59 : AFunc := ⟨.region [
  ⟨some 4, .p (.mv), [.t 0], none⟩,
  ⟨some 5, .p (.mv), [.t 1], none⟩,
  ⟨some 6, .i (.call 127), [.t 5], none⟩,
  ⟨some 7, .i (.call 126), [.t 4, .t 6], none⟩], 8, []⟩

/- varve/gauge.Add -/
def a60 : AFunc := ⟨.seq (.region [
   ⟨some 2, .i (.box 4), [.t 0], none⟩,
   ⟨some 4, .i (.alloc [(1, .int .u64 (.ofNat 0)), (1, .int .u64 (.ofNat 0)), (1, .int .u64 (.ofNat 0)), (1, .int .u64 (.ofNat 0))]), [], none⟩])
 (.seq (.seq (.region [
     ⟨some 5, .p (.mv), [.t 1], none⟩,
     ⟨some 6, .i (.call 128), [.t 5], none⟩])
   (.cond (.t 6)
    (.seq (.region [
       ⟨some 7, .p (.faddr 1), [.t 2], none⟩,
       ⟨some 8, .l (.load none), [.t 7], none⟩,
       ⟨some 9, .i (.call 125), [.t 8, .c (.int .u64 (.ofNat 1))], none⟩,
       ⟨some 10, .p (.faddr 1), [.t 2], none⟩,
       ⟨none, .i (.store 1), [.t 10, .t 9], none⟩])
     (.seq (.region [
        ⟨some 11, .l (.load (some 4)), [.t 2], none⟩,
        ⟨none, .i (.store 4), [.t 4, .t 11], none⟩])
      (.ret)))
    (.skip)))
  (.seq (.region [
     ⟨some 12, .l (.load (some 4)), [.t 2], none⟩,
     ⟨some 13, .p (.mv), [.t 1], none⟩,
     ⟨some 14, .p (.mv), [.t 1], none⟩,
     ⟨some 15, .p (.build [(1, .int .u64 (.ofNat 0)), (1, .int .u64 (.ofNat 0)), (1, .int .u64 (.ofNat 0)), (1, .int .u64 (.ofNat 0))] [(0, 1), (2, 1), (3, 1)]), [.c (.int .u64 (.ofNat 1)), .t 13, .t 14], none⟩,
     ⟨some 16, .i (.call 113), [.t 12, .t 15], none⟩,
     ⟨none, .i (.store 4), [.t 4, .t 16], none⟩])
   (.ret))), 17, [.cell 4 (some 4)]⟩

/- (*varve/hist.Hist).Buckets -/
def a61 : AFunc := ⟨.seq (.region [
   ⟨some 2, .p (.mv), [.c (.list .full 2 [])], none⟩])
 (.seq (.region [
    ⟨some 3, .p (.mv), [.c (.list .full 2 [])], none⟩])
  (.seq (.seq (.region [
      ⟨some 6, .p (.mv), [.t 0], none⟩,
      ⟨some 7, .p (.isnil .ptr false), [.t 6], none⟩])
    (.cond (.t 7)
     (.seq (.region [
        ⟨some 8, .p (.mv), [.t 3], none⟩,
        ⟨some 2, .p (.mv), [.t 8], none⟩])
      (.ret))
     (.skip)))
   (.seq (.seq (.region [
       ⟨some 9, .p (.mv), [.t 0], none⟩,
       ⟨some 10, .p (.nilchk), [.t 9], none⟩,
       ⟨some 11, .p (.faddr 0), [.t 10], none⟩,
       ⟨some 12, .l (.load (some 7424)), [.t 11], none⟩,
       ⟨some 13, .p (.mv), [.c (.int .i64 (.ofNat 0))], none⟩])
     (.block 0 (.loop (.seq (.region [
          ⟨some 14, .p (.bin .lss), [.t 13, .c (.int .i64 (.ofNat 7424))], none⟩])
        (.seq (.cond (.t 14)
          (.skip)
          (.exit 0))
         (.seq (.block 1 (.seq (.region [
              ⟨some 15, .p (.mv), [.t 13], none⟩,
              ⟨some 16, .p (.idxA 7424 1 none), [.t 12, .t 13], none⟩,
              ⟨some 4, .p (.mv), [.t 15], none⟩,
              ⟨some 5, .p (.mv), [.t 16], none⟩])
            (.seq (.region [
               ⟨some 17, .p (.mv), [.t 5], none⟩,
               ⟨some 18, .p (.bin .gtr), [.t 17, .c (.int .u64 (.ofNat 0))], none⟩])
             (.cond (.t 18)
              (.region [
                ⟨some 19, .p (.mv), [.t 3], none⟩,
                ⟨some 20, .p (.mv), [.t 4], none⟩,
                ⟨some 21, .p (.mv), [.t 5], none⟩,
                ⟨some 22, .p (.build [(1, .int .i64 (.ofNat 0)), (1, .int .u64 (.ofNat 0))] [(0, 1), (1, 1)]), [.t 20, .t 21], none⟩,
                ⟨some 23, .p (.bsl 2 1 true [(1, .int .i64 (.ofNat 0)), (1, .int .u64 (.ofNat 0))] [(0, 2)]), [.t 22], none⟩,
                ⟨some 24, .i (.append 2 16), [.t 19, .t 23], none⟩,
                ⟨some 3, .p (.mv), [.t 24], none⟩])
              (.skip)))))
          (.region [
            ⟨some 25, .p (.bin .add), [.t 13, .c (.int .i64 (.ofNat 1))], none⟩,
            ⟨some 13, .p (.mv), [.t 25], none⟩])))))))
    (.seq (.region [
       ⟨some 26, .p (.mv), [.t 3], none⟩,
       ⟨some 2, .p (.mv), [.t 26], none⟩])
     (.ret))))), 27, [.t 2]⟩

/- (*varve/kmv.Kmv).Hashes -/
def a62 : AFunc := ⟨.seq (.region [
   ⟨some 2, .p (.mv), [.c (.list .full 1 [])], none⟩])
 (.seq (.region [
    ⟨some 3, .p (.mv), [.c (.list .full 1 [])], none⟩])
  (.seq (.seq (.region [
      ⟨some 5, .p (.mv), [.t 0], none⟩,
      ⟨some 6, .p (.isnil .ptr false), [.t 5], none⟩])
    (.cond (.t 6)
     (.seq (.region [
        ⟨some 7, .p (.mv), [.t 3], none⟩,
        ⟨some 2, .p (.mv), [.t 7], none⟩])
      (.ret))
     (.skip)))
   (.seq (.seq (.region [
       ⟨some 8, .p (.mv), [.t 0], none⟩,
       ⟨some 9, .p (.nilchk), [.t 8], none⟩,
       ⟨some 10, .p (.faddr 0), [.t 9], none⟩,
       ⟨some 11, .l (.load none), [.t 10], none⟩,
       ⟨some 12, .i (.range), [.t 11], none⟩])
     (.block 0 (.loop (.seq (.region [
          ⟨some 13, .i (.next), [.t 12], none⟩,
          ⟨some 14, .p (.ext 0), [.t 13], none⟩])
        (.seq (.cond (.t 14)
          (.skip)
          (.exit 0))
         (.block 1 (.seq (.region [
             ⟨some 15, .l (.entry), [.t 12], none⟩,
             ⟨some 16, .p (.ext 0), [.t 15], none⟩,
             ⟨some 4, .p (.mv), [.t 16], none⟩])
           (.region [
             ⟨some 17, .p (.mv), [.t 3], none⟩,
             ⟨some 18, .p (.mv), [.t 4], none⟩,
             ⟨some 19, .p (.bsl 1 1 false [(1, .int .u64 (.ofNat 0))] [(0, 1)]), [.t 18], none⟩,
             ⟨some 20, .i (.append 1 8), [.t 17, .t 19], none⟩,
             ⟨some 3, .p (.mv), [.t 20], none⟩]))))))))
    (.seq (.region [
       ⟨some 21, .p (.mv), [.t 3], none⟩,
       ⟨some 22, .i (.call 129), [.t 21], none⟩])
     (.seq (.region [
        ⟨some 23, .p (.mv), [.t 3], none⟩,
        ⟨some 2, .p (.mv), [.t 23], none⟩])
      (.ret)))))), 24, [.t 2]⟩

/- (*varve/vfs.FS).List -/
def a64 : AFunc := ⟨.seq (.region [
   ⟨some 2, .p (.mv), [.c (.list .full 1 [])], none⟩])
 (.seq (.region [
    ⟨some 3, .p (.mv), [.c (.list .full 1 [])], none⟩])
  (.seq (.seq (.region [
      ⟨some 5, .p (.mv), [.t 0], none⟩,
      ⟨some 6, .p (.isnil .ptr false), [.t 5], none⟩])
    (.cond (.t 6)
     (.seq (.region [
        ⟨some 7, .p (.mv), [.t 3], none⟩,
        ⟨some 2, .p (.mv), [.t 7], none⟩])
      (.ret))
     (.skip)))
   (.seq (.seq (.region [
       ⟨some 8, .p (.mv), [.t 0], none⟩,
       ⟨some 9, .p (.nilchk), [.t 8], none⟩,
       ⟨some 10, .p (.faddr 1), [.t 9], none⟩,
       ⟨some 11, .l (.load none), [.t 10], none⟩,
       ⟨some 12, .i (.range), [.t 11], none⟩])
     (.block 0 (.loop (.seq (.region [
          ⟨some 13, .i (.next), [.t 12], none⟩,
          ⟨some 14, .p (.ext 0), [.t 13], none⟩])
        (.seq (.cond (.t 14)
          (.skip)
          (.exit 0))
         (.block 1 (.seq (.region [
             ⟨some 15, .l (.entry), [.t 12], none⟩,
             ⟨some 16, .p (.ext 0), [.t 15], none⟩,
             ⟨some 4, .p (.mv), [.t 16], none⟩])
           (.region [
             ⟨some 17, .p (.mv), [.t 3], none⟩,
             ⟨some 18, .p (.mv), [.t 4], none⟩,
             ⟨some 19, .p (.bsl 1 1 false [(1, .str [])] [(0, 1)]), [.t 18], none⟩,
             ⟨some 20, .i (.append 1 16), [.t 17, .t 19], none⟩,
             ⟨some 3, .p (.mv), [.t 20], none⟩]))))))))
    (.seq (.region [
       ⟨some 21, .p (.mv), [.t 3], none⟩,
       ⟨some 22, .i (.call 133), [.t 21], none⟩])
     (.seq (.region [
        ⟨some 23, .p (.mv), [.t 3], none⟩,
        ⟨some 2, .p (.mv), [.t 23], none⟩])
      (.ret)))))), 24, [.t 2]⟩

/- (*varve/vfs.FS).SyncDir -/
def a73 : AFunc := ⟨.seq (.region [
   ⟨some 2, .p (.mv), [.c (.int .i64 (.ofNat 0))], none⟩])
 (.seq (.seq (.region [
     ⟨some 6, .p (.mv), [.t 0], none⟩,
     ⟨some 7, .i (.call 144), [.t 6], none⟩,
     ⟨some 3, .p (.mv), [.t 7], none⟩])
   (.seq (.region [
      ⟨some 8, .p (.mv), [.t 3], none⟩,
      ⟨some 9, .p (.bin .neq), [.t 8, .c (.int .i64 (.ofNat 0))], none⟩])
    (.cond (.t 9)
     (.seq (.region [
        ⟨some 10, .p (.mv), [.t 3], none⟩,
        ⟨some 2, .p (.mv), [.t 10], none⟩])
      (.ret))
     (.skip))))
  (.seq (.seq (.region [
      ⟨some 11, .p (.mv), [.t 0], none⟩,
      ⟨some 12, .p (.nilchk), [.t 11], none⟩,
      ⟨some 13, .p (.faddr 2), [.t 12], none⟩,
      ⟨some 14, .l (.load none), [.t 13], none⟩,
      ⟨some 15, .p (.lenL), [.t 14], none⟩,
      ⟨some 16, .p (.mv), [.c (.int .i64 (.ofNat 0))], none⟩])
    (.block 0 (.loop (.seq (.region [
         ⟨some 17, .p (.bin .lss), [.t 16, .t 15], none⟩])
       (.seq (.cond (.t 17)
         (.skip)
         (.exit 0))
        (.seq (.block 1 (.seq (.region [
             ⟨some 18, .p (.iaddr 4), [.t 14, .t 16], none⟩,
             ⟨some 19, .l (.load (some 4)), [.t 18], none⟩,
             ⟨some 5, .i (.alloc [(1, .int .i64 (.ofNat 0)), (1, .str []), (1, .str []), (1, .nilp)]), [], none⟩,
             ⟨none, .i (.store 4), [.t 5, .t 19], none⟩])
           (.draw (.q ⟨some 20, .l (.load (some 4)), [.t 5], none⟩ (.q ⟨some 21, .p (.mv), [.t 0], none⟩ (.q ⟨some 22, .p (.nilchk), [.t 21], none⟩ (.q ⟨some 23, .p (.faddr 0), [.t 22], none⟩ (.q ⟨some 24, .l (.load none), [.t 23], none⟩ (.e ⟨some 25, .i (.call 147), [.t 20, .t 24], none⟩ [] (.done))))))))))
         (.region [
           ⟨some 26, .p (.bin .add), [.t 16, .c (.int .i64 (.ofNat 1))], none⟩,
           ⟨some 16, .p (.mv), [.t 26], none⟩])))))))
   (.seq (.region [
      ⟨some 27, .p (.mv), [.t 0], none⟩,
      ⟨some 28, .p (.nilchk), [.t 27], none⟩,
      ⟨some 29, .p (.faddr 2), [.t 28], none⟩,
      ⟨none, .i (.store 1), [.t 29, .c (.list .full 4 [])], none⟩])
    (.seq (.region [
       ⟨some 2, .p (.mv), [.c (.int .i64 (.ofNat 0))], none⟩])
     (.ret))))), 30, [.t 2]⟩

/- (*varve/match.room).holds -/
def a74 : AFunc := ⟨.seq (.region [
   ⟨some 4, .i (.box 5), [.t 1], none⟩,
   ⟨some 6, .p (.mv), [.c (.bool false)], none⟩])
 (.seq (.region [
    ⟨some 11, .p (.mv), [.t 0], none⟩,
    ⟨some 12, .p (.nilchk), [.t 11], none⟩,
    ⟨some 13, .p (.faddr 0), [.t 12], none⟩,
    ⟨some 14, .l (.load none), [.t 13], none⟩,
    ⟨some 15, .p (.bin .sub), [.t 14, .c (.int .i64 (.ofNat 1))], none⟩,
    ⟨some 16, .p (.nilchk), [.t 11], none⟩,
    ⟨some 17, .p (.faddr 0), [.t 16], none⟩,
    ⟨none, .i (.store 1), [.t 17, .t 15], none⟩])
  (.seq (.seq (.region [
      ⟨some 18, .p (.mv), [.t 2], none⟩,
      ⟨some 19, .p (.bin .gtr), [.t 18, .c (.int .i64 (.ofNat 8))], none⟩,
      ⟨some 20, .p (.mv), [.t 19], none⟩,
      ⟨some 21, .p (.mv), [.t 0], some (20, false)⟩,
      ⟨some 22, .p (.nilchk), [.t 21], some (20, false)⟩,
      ⟨some 23, .p (.faddr 0), [.t 22], some (20, false)⟩,
      ⟨some 24, .l (.load none), [.t 23], some (20, false)⟩,
      ⟨some 25, .p (.bin .lss), [.t 24, .c (.int .i64 (.ofNat 0))], some (20, false)⟩,
      ⟨some 26, .p (.pick), [.t 20, .c (.bool true), .t 25], none⟩,
      ⟨some 27, .p (.mv), [.t 26], none⟩,
      ⟨some 28, .l (.load (some 5)), [.t 4], some (27, false)⟩,
      ⟨some 29, .i (.call 148), [.t 28], some (27, false)⟩,
      ⟨some 30, .p (.un .not), [.t 29], some (27, false)⟩,
      ⟨some 31, .p (.pick), [.t 27, .c (.bool true), .t 30], none⟩])
    (.cond (.t 31)
     (.seq (.region [
        ⟨some 6, .p (.mv), [.c (.bool false)], none⟩])
      (.ret))
     (.skip)))
   (.seq (.draw (.q ⟨some 32, .p (.mv), [.t 0], none⟩ (.q ⟨some 33, .p (.nilchk), [.t 32], none⟩ (.q ⟨some 34, .p (.faddr 1), [.t 33], none⟩ (.q ⟨some 35, .l (.load none), [.t 34], none⟩ (.q ⟨some 36, .p (.faddr 1), [.t 4], none⟩ (.q ⟨some 37, .l (.load none), [.t 36], none⟩ (.q ⟨some 38, .p (.lenS), [.t 37], none⟩ (.q ⟨some 39, .p (.faddr 2), [.t 4], none⟩ (.q ⟨some 40, .l (.load none), [.t 39], none⟩ (.q ⟨some 41, .p (.lenS), [.t 40], none⟩ (.q ⟨some 42, .p (.bin .add), [.t 38, .t 41], none⟩ (.q ⟨some 43, .p (.bin .sub), [.t 35, .t 42], none⟩ (.q ⟨some 44, .p (.nilchk), [.t 32], none⟩ (.q ⟨some 45, .p (.faddr 1), [.t 44], none⟩ (.e ⟨none, .i (.store 1), [.t 45, .t 43], none⟩ [] (.done)))))))))))))))))
    (.seq (.seq (.region [
        ⟨some 46, .p (.faddr 3), [.t 4], none⟩,
        ⟨some 47, .l (.load none), [.t 46], none⟩,
        ⟨some 48, .p (.lenL), [.t 47], none⟩,
        ⟨some 49, .p (.mv), [.c (.int .i64 (.ofNat 0))], none⟩])
      (.block 0 (.loop (.seq (.region [
           ⟨some 50, .p (.bin .lss), [.t 49, .t 48], none⟩])
         (.seq (.cond (.t 50)
           (.skip)
           (.exit 0))
          (.seq (.block 1 (.seq (.region [
               ⟨some 51, .p (.iaddr 1), [.t 47, .t 49], none⟩,
               ⟨some 52, .l (.load none), [.t 51], none⟩,
               ⟨some 8, .p (.mv), [.t 52], none⟩])
             (.region [
               ⟨some 53, .p (.mv), [.t 0], none⟩,
               ⟨some 54, .p (.nilchk), [.t 53], none⟩,
               ⟨some 55, .p (.faddr 1), [.t 54], none⟩,
               ⟨some 56, .l (.load none), [.t 55], none⟩,
               ⟨some 57, .p (.mv), [.t 8], none⟩,
               ⟨some 58, .p (.lenS), [.t 57], none⟩,
               ⟨some 59, .p (.bin .sub), [.t 56, .t 58], none⟩,
               ⟨some 60, .p (.nilchk), [.t 53], none⟩,
               ⟨some 61, .p (.faddr 1), [.t 60], none⟩,
               ⟨none, .i (.store 1), [.t 61, .t 59], none⟩])))
           (.region [
             ⟨some 62, .p (.bin .add), [.t 49, .c (.int .i64 (.ofNat 1))], none⟩,
             ⟨some 49, .p (.mv), [.t 62], none⟩])))))))
     (.seq (.seq (.region [
         ⟨some 63, .p (.mv), [.t 0], none⟩,
         ⟨some 64, .p (.nilchk), [.t 63], none⟩,
         ⟨some 65, .p (.faddr 1), [.t 64], none⟩,
         ⟨some 66, .l (.load none), [.t 65], none⟩,
         ⟨some 67, .p (.bin .lss), [.t 66, .c (.int .i64 (.ofNat 0))], none⟩])
       (.cond (.t 67)
        (.seq (.region [
           ⟨some 6, .p (.mv), [.c (.bool false)], none⟩])
         (.ret))
        (.skip)))
      (.seq (.seq (.region [
          ⟨some 68, .p (.faddr 4), [.t 4], none⟩,
          ⟨some 69, .l (.load none), [.t 68], none⟩,
          ⟨some 70, .p (.lenL), [.t 69], none⟩,
          ⟨some 71, .p (.mv), [.c (.int .i64 (.ofNat 0))], none⟩])
        (.block 2 (.loop (.seq (.region [
             ⟨some 72, .p (.bin .lss), [.t 71, .t 70], none⟩])
           (.seq (.cond (.t 72)
             (.skip)
             (.exit 2))
            (.seq (.block 3 (.seq (.region [
                 ⟨some 73, .p (.iaddr 5), [.t 69, .t 71], none⟩,
                 ⟨some 74, .l (.load (some 5)), [.t 73], none⟩,
                 ⟨some 10, .i (.alloc [(1, .int .i64 (.ofNat 0)), (1, .str []), (1, .str []), (1, .list .full 1 []), (1, .list .full 5 [])]), [], none⟩,
                 ⟨none, .i (.store 5), [.t 10, .t 74], none⟩])
               (.seq (.region [
                  ⟨some 75, .p (.mv), [.t 0], none⟩,
                  ⟨some 76, .l (.load (some 5)), [.t 10], none⟩,
                  ⟨some 77, .p (.mv), [.t 2], none⟩,
                  ⟨some 78, .p (.bin .add), [.t 77, .c (.int .i64 (.ofNat 1))], none⟩,
                  ⟨some 79, .i (.call 74), [.t 75, .t 76, .t 78], none⟩,
                  ⟨some 80, .p (.un .not), [.t 79], none⟩])
                (.cond (.t 80)
                 (.seq (.region [
                    ⟨some 6, .p (.mv), [.c (.bool false)], none⟩])
                  (.ret))
                 (.skip)))))
             (.region [
               ⟨some 81, .p (.bin .add), [.t 71, .c (.int .i64 (.ofNat 1))], none⟩,
               ⟨some 71, .p (.mv), [.t 81], none⟩])))))))
       (.seq (.region [
          ⟨some 6, .p (.mv), [.c (.bool true)], none⟩])
        (.ret)))))))), 82, [.t 6]⟩

/- (*varve/engine.Engine).record$1 -/
def a75 : AFunc := ⟨.seq (.region [
   ⟨some 2, .p (.mv), [.c (.int .i64 (.ofNat 0))], none⟩])
 (.seq (.draw (.q ⟨some 3, .l (.load none), [.t 0], none⟩ (.q ⟨some 4, .p (.nilchk), [.t 3], none⟩ (.q ⟨some 5, .p (.faddr 7), [.t 4], none⟩ (.q ⟨some 6, .l (.load none), [.t 5], none⟩ (.q ⟨some 7, .p (.nilchk), [.t 6], none⟩ (.q ⟨some 8, .p (.faddr 8), [.t 7], none⟩ (.q ⟨some 9, .l (.load none), [.t 8], none⟩ (.q ⟨some 10, .l (.load (some 18)), [.t 1], none⟩ (.e ⟨some 11, .i (.call 76), [.t 9, .t 10], none⟩ [] (.q ⟨some 2, .p (.mv), [.t 11], none⟩ (.done))))))))))))
  (.ret)), 12, [.t 2]⟩

/- (*varve/wal.Log).Append -/
def a76 : AFunc := ⟨.seq (.region [
   ⟨some 3, .i (.box 18), [.t 1], none⟩,
   ⟨some 4, .p (.mv), [.c (.int .i64 (.ofNat 0))], none⟩])
 (.seq (.draw (.q ⟨some 9, .p (.mv), [.t 0], none⟩ (.q ⟨some 10, .p (.nilchk), [.t 9], none⟩ (.q ⟨some 11, .p (.faddr 0), [.t 10], none⟩ (.q ⟨some 12, .l (.load none), [.t 11], none⟩ (.q ⟨some 13, .p (.mv), [.t 0], none⟩ (.q ⟨some 14, .p (.nilchk), [.t 13], none⟩ (.q ⟨some 15, .p (.faddr 1), [.t 14], none⟩ (.q ⟨some 16, .l (.load none), [.t 15], none⟩ (.e ⟨some 17, .i (.call 100), [.t 16], none⟩ [⟨some 12, .l (.load none), [.t 11], none⟩] (.e ⟨some 18, .i (.call 84), [.t 12, .t 17], none⟩ [] (.q ⟨some 8, .p (.mv), [.t 18], none⟩ (.q ⟨some 19, .p (.ext 0), [.t 8], none⟩ (.q ⟨some 20, .p (.ext 1), [.t 8], none⟩ (.q ⟨some 5, .p (.mv), [.t 19], none⟩ (.q ⟨some 6, .p (.mv), [.t 20], none⟩ (.done)))))))))))))))))
  (.seq (.region [
     ⟨some 7, .p (.mv), [.c (.int .i64 (.ofNat 0))], none⟩])
   (.seq (.block 0 (.seq (.block 2 (.seq (.block 1 (.seq (.seq (.region [
             ⟨some 22, .p (.mv), [.t 5], none⟩,
             ⟨some 23, .p (.lenL), [.t 22], none⟩,
             ⟨some 24, .p (.bin .geq), [.t 23, .c (.int .i64 (.ofNat 4096))], none⟩,
             ⟨some 21, .p (.mv), [.t 24], none⟩])
           (.cond (.t 21)
            (.exit 1)
            (.skip)))
          (.exit 2)))
        (.seq (.region [
           ⟨some 25, .p (.mv), [.t 0], none⟩,
           ⟨some 26, .i (.call 139), [.t 25], none⟩,
           ⟨some 7, .p (.mv), [.t 26], none⟩])
         (.seq (.region [
            ⟨some 27, .p (.mv), [.t 7], none⟩,
            ⟨some 28, .p (.bin .neq), [.t 27, .c (.int .i64 (.ofNat 0))], none⟩])
          (.cond (.t 28)
           (.seq (.region [
              ⟨some 29, .p (.mv), [.t 7], none⟩,
              ⟨some 4, .p (.mv), [.t 29], none⟩])
            (.ret))
           (.skip))))))
      (.seq (.seq (.region [
          ⟨some 31, .l (.load (some 18)), [.t 3], none⟩,
          ⟨some 32, .i (.call 150), [.c (.list .full 1 []), .t 31], none⟩,
          ⟨some 33, .i (.call 149), [.c (.list .full 1 []), .t 32], none⟩,
          ⟨some 30, .p (.mv), [.t 33], none⟩,
          ⟨some 34, .p (.ext 0), [.t 30], none⟩,
          ⟨some 35, .p (.ext 1), [.t 30], none⟩,
          ⟨some 5, .p (.mv), [.t 34], none⟩,
          ⟨some 7, .p (.mv), [.t 35], none⟩])
        (.seq (.region [
           ⟨some 36, .p (.mv), [.t 7], none⟩,
           ⟨some 37, .p (.bin .neq), [.t 36, .c (.int .i64 (.ofNat 0))], none⟩])
         (.cond (.t 37)
          (.seq (.region [
             ⟨some 38, .p (.mv), [.t 7], none⟩,
             ⟨some 4, .p (.mv), [.t 38], none⟩])
           (.ret))
          (.skip))))
       (.exit 0))))
    (.seq (.seq (.draw (.q ⟨some 39, .p (.mv), [.t 0], none⟩ (.q ⟨some 40, .p (.nilchk), [.t 39], none⟩ (.q ⟨some 41, .p (.faddr 0), [.t 40], none⟩ (.q ⟨some 42, .l (.load none), [.t 41], none⟩ (.q ⟨some 43, .p (.mv), [.t 0], none⟩ (.q ⟨some 44, .p (.nilchk), [.t 43], none⟩ (.q ⟨some 45, .p (.faddr 1), [.t 44], none⟩ (.q ⟨some 46, .l (.load none), [.t 45], none⟩ (.q ⟨some 48, .p (.mv), [.t 5], none⟩ (.e ⟨some 47, .i (.call 100), [.t 46], none⟩ [⟨some 42, .l (.load none), [.t 41], none⟩] (.e ⟨some 49, .i (.call 95), [.t 42, .t 47, .t 48], none⟩ [] (.q ⟨some 7, .p (.mv), [.t 49], none⟩ (.done))))))))))))))
      (.seq (.region [
         ⟨some 50, .p (.mv), [.t 7], none⟩,
         ⟨some 51, .p (.bin .neq), [.t 50, .c (.int .i64 (.ofNat 0))], none⟩])
       (.cond (.t 51)
        (.seq (.region [
           ⟨some 52, .p (.mv), [.t 7], none⟩,
           ⟨some 4, .p (.mv), [.t 52], none⟩])
         (.ret))
        (.skip))))
     (.seq (.draw (.q ⟨some 53, .p (.mv), [.t 0], none⟩ (.q ⟨some 54, .p (.nilchk), [.t 53], none⟩ (.q ⟨some 55, .p (.faddr 0), [.t 54], none⟩ (.q ⟨some 56, .l (.load none), [.t 55], none⟩ (.q ⟨some 57, .p (.mv), [.t 0], none⟩ (.q ⟨some 58, .p (.nilchk), [.t 57], none⟩ (.q ⟨some 59, .p (.faddr 1), [.t 58], none⟩ (.q ⟨some 60, .l (.load none), [.t 59], none⟩ (.e ⟨some 61, .i (.call 100), [.t 60], none⟩ [⟨some 56, .l (.load none), [.t 55], none⟩] (.e ⟨some 62, .i (.call 97), [.t 56, .t 61], none⟩ [] (.q ⟨some 4, .p (.mv), [.t 62], none⟩ (.done)))))))))))))
      (.ret)))))), 63, [.t 4]⟩

/- (*varve/load.State).Takes -/
def a77 : AFunc := ⟨.seq (.region [
   ⟨some 3, .i (.box 18), [.t 1], none⟩,
   ⟨some 4, .p (.mv), [.c (.bool false)], none⟩])
 (.seq (.seq (.region [
     ⟨some 5, .p (.faddr 1), [.t 3], none⟩,
     ⟨some 6, .l (.load none), [.t 5], none⟩,
     ⟨some 7, .p (.bin .eql), [.t 6, .c (.int .i64 (.ofNat 1))], none⟩])
   (.cond (.t 7)
    (.seq (.seq (.draw (.q ⟨some 8, .p (.faddr 2), [.t 3], none⟩ (.q ⟨some 9, .p (.faddr 2), [.t 8], none⟩ (.q ⟨some 10, .l (.load (some 6)), [.t 9], none⟩ (.e ⟨some 11, .i (.call 151), [.t 10], none⟩ [] (.q ⟨some 12, .p (.mv), [.t 11], none⟩ (.q ⟨some 13, .p (.mv), [.t 0], some (12, false)⟩ (.q ⟨some 14, .p (.nilchk), [.t 13], some (12, false)⟩ (.q ⟨some 15, .p (.faddr 9), [.t 14], some (12, false)⟩ (.q ⟨some 16, .l (.load none), [.t 15], some (12, false)⟩ (.q ⟨some 17, .p (.faddr 2), [.t 3], some (12, false)⟩ (.q ⟨some 18, .l (.load (some 8)), [.t 17], some (12, false)⟩ (.e ⟨some 19, .i (.call 152), [.t 16, .t 18], some (12, false)⟩ [] (.q ⟨some 20, .p (.bin .neq), [.t 19, .c (.int .i64 (.ofNat 0))], some (12, false)⟩ (.q ⟨some 21, .p (.pick), [.t 12, .c (.bool true), .t 20], none⟩ (.done))))))))))))))))
      (.cond (.t 21)
       (.seq (.region [
          ⟨some 4, .p (.mv), [.c (.bool false)], none⟩])
        (.ret))
       (.skip)))
     (.seq (.region [
        ⟨some 22, .p (.mv), [.t 0], none⟩,
        ⟨some 23, .p (.faddr 0), [.t 3], none⟩,
        ⟨some 24, .l (.load none), [.t 23], none⟩,
        ⟨some 25, .p (.nilchk), [.t 22], none⟩,
        ⟨some 26, .p (.faddr 11), [.t 25], none⟩,
        ⟨none, .i (.store 1), [.t 26, .t 24], none⟩])
      (.seq (.region [
         ⟨some 4, .p (.mv), [.c (.bool true)], none⟩])
       (.ret))))
    (.skip)))
  (.seq (.seq (.region [
      ⟨some 27, .p (.faddr 10), [.t 3], none⟩,
      ⟨some 28, .l (.load (some 8)), [.t 27], none⟩,
      ⟨some 29, .i (.call 153), [.t 28], none⟩,
      ⟨some 30, .p (.un .not), [.t 29], none⟩,
      ⟨some 31, .p (.mv), [.t 30], none⟩,
      ⟨some 32, .p (.mv), [.t 0], some (31, false)⟩,
      ⟨some 33, .p (.nilchk), [.t 32], some (31, false)⟩,
      ⟨some 34, .p (.faddr 10), [.t 33], some (31, false)⟩,
      ⟨some 35, .l (.load none), [.t 34], some (31, false)⟩,
      ⟨some 36, .p (.lenL), [.t 35], some (31, false)⟩,
      ⟨some 37, .p (.bin .geq), [.t 36, .c (.int .i64 (.ofNat 64))], some (31, false)⟩,
      ⟨some 38, .p (.pick), [.t 31, .c (.bool true), .t 37], none⟩])
    (.cond (.t 38)
     (.seq (.region [
        ⟨some 4, .p (.mv), [.c (.bool false)], none⟩])
      (.ret))
     (.skip)))
   (.seq (.draw (.q ⟨some 39, .p (.mv), [.t 0], none⟩ (.q ⟨some 40, .p (.nilchk), [.t 39], none⟩ (.q ⟨some 41, .p (.faddr 9), [.t 40], none⟩ (.q ⟨some 42, .l (.load none), [.t 41], none⟩ (.q ⟨some 43, .p (.faddr 10), [.t 3], none⟩ (.q ⟨some 44, .p (.faddr 1), [.t 43], none⟩ (.q ⟨some 45, .l (.load (some 5)), [.t 44], none⟩ (.q ⟨some 46, .p (.faddr 10), [.t 3], none⟩ (.q ⟨some 47, .p (.faddr 6), [.t 46], none⟩ (.q ⟨some 48, .l (.load none), [.t 47], none⟩ (.q ⟨some 49, .p (.faddr 10), [.t 3], none⟩ (.q ⟨some 50, .p (.faddr 7), [.t 49], none⟩ (.q ⟨some 51, .l (.load none), [.t 50], none⟩ (.e ⟨some 52, .i (.call 154), [.t 42, .t 45, .t 48, .t 51], none⟩ [] (.done))))))))))))))))
    (.seq (.region [
       ⟨some 53, .p (.faddr 10), [.t 3], none⟩,
       ⟨some 54, .p (.faddr 1), [.t 53], none⟩,
       ⟨some 55, .l (.load (some 5)), [.t 54], none⟩,
       ⟨some 56, .i (.call 25), [.t 55], none⟩,
       ⟨some 57, .p (.faddr 10), [.t 3], none⟩,
       ⟨some 58, .p (.faddr 1), [.t 57], none⟩,
       ⟨none, .i (.store 5), [.t 58, .t 56], none⟩])
     (.seq (.draw (.q ⟨some 59, .p (.mv), [.t 0], none⟩ (.q ⟨some 60, .p (.mv), [.t 0], none⟩ (.q ⟨some 61, .p (.nilchk), [.t 60], none⟩ (.q ⟨some 62, .p (.faddr 10), [.t 61], none⟩ (.q ⟨some 63, .l (.load none), [.t 62], none⟩ (.q ⟨some 64, .p (.mv), [.t 0], none⟩ (.q ⟨some 65, .p (.nilchk), [.t 64], none⟩ (.q ⟨some 66, .p (.faddr 10), [.t 65], none⟩ (.q ⟨some 67, .l (.load none), [.t 66], none⟩ (.q ⟨some 68, .p (.lenL), [.t 67], none⟩ (.q ⟨some 69, .p (.mv), [.t 0], none⟩ (.q ⟨some 70, .p (.nilchk), [.t 69], none⟩ (.q ⟨some 71, .p (.faddr 10), [.t 70], none⟩ (.q ⟨some 72, .l (.load none), [.t 71], none⟩ (.q ⟨some 73, .p (.lenL), [.t 72], none⟩ (.q ⟨some 74, .p (.slL 8 false true true), [.t 63, .t 68, .t 73], none⟩ (.q ⟨some 75, .p (.faddr 10), [.t 3], none⟩ (.q ⟨some 76, .l (.load (some 8)), [.t 75], none⟩ (.q ⟨some 77, .p (.bsl 8 1 true [(1, .int .i64 (.ofNat 0)), (1, .int .i64 (.ofNat 0)), (1, .str []), (1, .str []), (1, .list .full 1 []), (1, .list .full 5 []), (1, .int .i64 (.ofNat 0)), (1, .int .i64 (.ofNat 0))] [(0, 8)]), [.t 76], none⟩ (.e ⟨some 78, .i (.append 8 112), [.t 74, .t 77], none⟩ [] (.q ⟨some 79, .p (.nilchk), [.t 59], none⟩ (.q ⟨some 80, .p (.faddr 10), [.t 79], none⟩ (.e ⟨none, .i (.store 1), [.t 80, .t 78], none⟩ [] (.done)))))))))))))))))))))))))
      (.seq (.region [
         ⟨some 81, .p (.mv), [.t 0], none⟩,
         ⟨some 82, .p (.faddr 0), [.t 3], none⟩,
         ⟨some 83, .l (.load none), [.t 82], none⟩,
         ⟨some 84, .p (.nilchk), [.t 81], none⟩,
         ⟨some 85, .p (.faddr 11), [.t 84], none⟩,
         ⟨none, .i (.store 1), [.t 85, .t 83], none⟩])
       (.seq (.region [
          ⟨some 4, .p (.mv), [.c (.bool true)], none⟩])
        (.ret)))))))), 86, [.t 4]⟩

/- varve/cal.Level -/
def a78 : AFunc := ⟨.seq (.region [
   ⟨some 3, .i (.box 5), [.t 0], none⟩,
   ⟨some 6, .p (.mv), [.c (.int .i64 (.ofNat 0))], none⟩])
 (.scope (.seq (.region [
     ⟨some 7, .p (.mv), [.c (.int .i64 (.ofNat 4))], none⟩])
   (.seq (.label 0)
    (.seq (.seq (.region [
        ⟨some 9, .p (.mv), [.c (.int .i64 (.ofNat 0))], none⟩])
      (.block 0 (.loop (.seq (.region [
           ⟨some 10, .p (.bin .lss), [.t 9, .c (.int .i64 (.ofNat 4))], none⟩])
         (.seq (.cond (.t 10)
           (.skip)
           (.exit 0))
          (.seq (.block 1 (.seq (.region [
               ⟨some 11, .p (.mv), [.t 9], none⟩,
               ⟨some 8, .p (.mv), [.t 11], none⟩])
             (.seq (.region [
                ⟨some 12, .l (.load (some 5)), [.t 3], none⟩,
                ⟨some 13, .p (.mv), [.t 1], none⟩,
                ⟨some 14, .p (.mv), [.t 8], none⟩,
                ⟨some 15, .i (.call 44), [.t 12, .t 13, .t 14], none⟩,
                ⟨some 16, .p (.mv), [.t 2], none⟩,
                ⟨some 17, .i (.call 103), [.t 16], none⟩,
                ⟨some 18, .p (.bin .leq), [.t 15, .t 17], none⟩])
              (.cond (.t 18)
               (.seq (.region [
                  ⟨some 19, .p (.mv), [.t 8], none⟩,
                  ⟨some 7, .p (.mv), [.t 19], none⟩])
                (.exit 0))
               (.skip)))))
           (.region [
             ⟨some 20, .p (.bin .add), [.t 9, .c (.int .i64 (.ofNat 1))], none⟩,
             ⟨some 9, .p (.mv), [.t 20], none⟩])))))))
     (.seq (.region [
        ⟨some 21, .p (.mv), [.t 7], none⟩,
        ⟨some 6, .p (.mv), [.t 21], none⟩])
      (.ret)))))), 22, [.t 6]⟩

/- varve/cal.Floor -/
def a79 : AFunc := ⟨.seq (.region [
   ⟨some 4, .p (.mv), [.c (.int .i64 (.ofNat 0))], none⟩])
 (.seq (.region [
    ⟨some 7, .p (.mv), [.t 1], none⟩,
    ⟨some 8, .i (.call 104), [.t 7], none⟩,
    ⟨some 5, .p (.mv), [.t 8], none⟩])
  (.seq (.seq (.region [
      ⟨some 9, .p (.mv), [.t 5], none⟩,
      ⟨some 10, .p (.bin .eql), [.t 9, .c (.int .i64 (.ofNat 0))], none⟩])
    (.cond (.t 10)
     (.seq (.region [
        ⟨some 11, .p (.mv), [.t 0], none⟩,
        ⟨some 4, .p (.mv), [.t 11], none⟩])
      (.ret))
     (.skip)))
   (.seq (.region [
      ⟨some 12, .p (.mv), [.t 0], none⟩,
      ⟨some 13, .p (.mv), [.t 5], none⟩,
      ⟨some 14, .i (.call 102), [.t 12, .t 13], none⟩,
      ⟨some 6, .p (.mv), [.t 14], none⟩])
    (.seq (.seq (.region [
        ⟨some 15, .p (.mv), [.t 0], none⟩,
        ⟨some 16, .p (.mv), [.t 6], none⟩,
        ⟨some 17, .p (.bin .add), [.c (.int .i64 (.negSucc 9223372036854775807)), .t 16], none⟩,
        ⟨some 18, .p (.bin .lss), [.t 15, .t 17], none⟩])
      (.cond (.t 18)
       (.region [
         ⟨some 19, .p (.mv), [.t 6], none⟩,
         ⟨some 20, .p (.mv), [.t 5], none⟩,
         ⟨some 21, .p (.bin .sub), [.t 19, .t 20], none⟩,
         ⟨some 6, .p (.mv), [.t 21], none⟩])
       (.skip)))
     (.seq (.region [
        ⟨some 22, .p (.mv), [.t 0], none⟩,
        ⟨some 23, .p (.mv), [.t 6], none⟩,
        ⟨some 24, .p (.bin .sub), [.t 22, .t 23], none⟩,
        ⟨some 4, .p (.mv), [.t 24], none⟩])
      (.ret)))))), 25, [.t 4]⟩

/- varve/rows.Join -/
def a80 : AFunc := ⟨.seq (.region [
   ⟨some 2, .p (.mv), [.c (.list .full 8 [])], none⟩])
 (.seq (.region [
    ⟨some 8, .p (.mv), [.t 0], none⟩,
    ⟨some 9, .i (.append 8 112), [.c (.list .full 8 []), .t 8], none⟩,
    ⟨some 0, .p (.mv), [.t 9], none⟩])
  (.seq (.region [
     ⟨some 10, .p (.mv), [.t 0], none⟩,
     ⟨some 11, .i (.call 155), [.t 10, .c (.fn (.func 108) [] [])], none⟩])
   (.seq (.region [
      ⟨some 3, .p (.mv), [.c (.list .full 8 [])], none⟩])
    (.seq (.seq (.region [
        ⟨some 4, .p (.mv), [.c (.int .i64 (.ofNat 0))], none⟩])
      (.block 0 (.loop (.seq (.seq (.region [
            ⟨some 12, .p (.mv), [.t 4], none⟩,
            ⟨some 13, .p (.mv), [.t 0], none⟩,
            ⟨some 14, .p (.lenL), [.t 13], none⟩,
            ⟨some 15, .p (.bin .lss), [.t 12, .t 14], none⟩])
          (.cond (.t 15)
           (.skip)
           (.exit 0)))
         (.block 1 (.seq (.region [
             ⟨some 16, .p (.mv), [.t 4], none⟩,
             ⟨some 5, .p (.mv), [.t 16], none⟩])
           (.seq (.region [
              ⟨some 6, .p (.mv), [.c (.list .full 6 [])], none⟩])
            (.seq (.block 2 (.loop (.seq (.seq (.draw (.q ⟨some 17, .p (.mv), [.t 5], none⟩ (.q ⟨some 18, .p (.mv), [.t 0], none⟩ (.q ⟨some 19, .p (.lenL), [.t 18], none⟩ (.q ⟨some 20, .p (.bin .lss), [.t 17, .t 19], none⟩ (.q ⟨some 21, .p (.mv), [.t 20], none⟩ (.q ⟨some 22, .p (.mv), [.t 0], some (21, true)⟩ (.q ⟨some 23, .p (.mv), [.t 4], some (21, true)⟩ (.q ⟨some 24, .p (.iaddr 8), [.t 22, .t 23], some (21, true)⟩ (.q ⟨some 25, .l (.load (some 8)), [.t 24], some (21, true)⟩ (.q ⟨some 26, .p (.mv), [.t 0], some (21, true)⟩ (.q ⟨some 27, .p (.mv), [.t 5], some (21, true)⟩ (.q ⟨some 28, .p (.iaddr 8), [.t 26, .t 27], some (21, true)⟩ (.q ⟨some 29, .l (.load (some 8)), [.t 28], some (21, true)⟩ (.e ⟨some 30, .i (.call 108), [.t 25, .t 29], some (21, true)⟩ [] (.q ⟨some 31, .p (.bin .eql), [.t 30, .c (.int .i64 (.ofNat 0))], some (21, true)⟩ (.q ⟨some 32, .p (.pick), [.t 21, .t 31, .c (.bool false)], none⟩ (.done))))))))))))))))))
                 (.cond (.t 32)
                  (.skip)
                  (.exit 2)))
                (.seq (.block 3 (.region [
                    ⟨some 35, .p (.mv), [.t 6], none⟩,
                    ⟨some 36, .p (.mv), [.t 0], none⟩,
                    ⟨some 37, .p (.mv), [.t 5], none⟩,
                    ⟨some 38, .p (.iaddr 8), [.t 36, .t 37], none⟩,
                    ⟨some 39, .p (.faddr 2), [.t 38], none⟩,
                    ⟨some 40, .l (.load (some 6)), [.t 39], none⟩,
                    ⟨some 41, .p (.bsl 6 1 true [(1, .list .full 2 []), (1, .list .full 1 []), (1, .int .u64 (.ofNat 0)), (1, .int .u64 (.ofNat 0)), (1, .int .u64 (.ofNat 0)), (1, .int .u64 (.ofNat 0))] [(0, 6)]), [.t 40], none⟩,
                    ⟨some 42, .i (.append 6 80), [.t 35, .t 41], none⟩,
                    ⟨some 6, .p (.mv), [.t 42], none⟩]))
                 (.region [
                   ⟨some 33, .p (.mv), [.t 5], none⟩,
                   ⟨some 34, .p (.bin .add), [.t 33, .c (.int .i64 (.ofNat 1))], none⟩,
                   ⟨some 5, .p (.mv), [.t 34], none⟩])))))
             (.seq (.region [
                ⟨some 43, .p (.mv), [.t 0], none⟩,
                ⟨some 44, .p (.mv), [.t 4], none⟩,
                ⟨some 45, .p (.iaddr 8), [.t 43, .t 44], none⟩,
                ⟨some 46, .l (.load (some 8)), [.t 45], none⟩,
                ⟨some 47, .i (.call 55), [.t 46], none⟩,
                ⟨some 7, .i (.alloc [(1, .list .full 2 []), (1, .int .i64 (.ofNat 0)), (1, .list .full 2 []), (1, .list .full 1 []), (1, .int .u64 (.ofNat 0)), (1, .int .u64 (.ofNat 0)), (1, .int .u64 (.ofNat 0)), (1, .int .u64 (.ofNat 0))]), [], none⟩,
                ⟨none, .i (.store 8), [.t 7, .t 47], none⟩])
              (.seq (.seq (.region [
                  ⟨some 48, .p (.mv), [.t 5], none⟩,
                  ⟨some 49, .p (.mv), [.t 4], none⟩,
                  ⟨some 50, .p (.bin .add), [.t 49, .c (.int .i64 (.ofNat 1))], none⟩,
                  ⟨some 51, .p (.bin .gtr), [.t 48, .t 50], none⟩])
                (.cond (.t 51)
                 (.region [
                   ⟨some 53, .p (.mv), [.t 6], none⟩,
                   ⟨some 54, .i (.call 51), [.t 53], none⟩,
                   ⟨some 52, .p (.mv), [.t 54], none⟩,
                   ⟨some 55, .p (.ext 0), [.t 52], none⟩,
                   ⟨some 56, .p (.ext 1), [.t 52], none⟩,
                   ⟨some 57, .p (.faddr 2), [.t 7], none⟩,
                   ⟨none, .i (.store 6), [.t 57, .t 55], none⟩])
                 (.skip)))
               (.seq (.region [
                  ⟨some 58, .p (.mv), [.t 3], none⟩,
                  ⟨some 59, .l (.load (some 8)), [.t 7], none⟩,
                  ⟨some 60, .p (.bsl 8 1 true [(1, .list .full 2 []), (1, .int .i64 (.ofNat 0)), (1, .list .full 2 []), (1, .list .full 1 []), (1, .int .u64 (.ofNat 0)), (1, .int .u64 (.ofNat 0)), (1, .int .u64 (.ofNat 0)), (1, .int .u64 (.ofNat 0))] [(0, 8)]), [.t 59], none⟩,
                  ⟨some 61, .i (.append 8 112), [.t 58, .t 60], none⟩,
                  ⟨some 3, .p (.mv), [.t 61], none⟩])
                (.region [
                  ⟨some 62, .p (.mv), [.t 5], none⟩,
                  ⟨some 4, .p (.mv), [.t 62], none⟩]))))))))))))
     (.seq (.region [
        ⟨some 63, .p (.mv), [.t 3], none⟩,
        ⟨some 2, .p (.mv), [.t 63], none⟩])
      (.ret)))))), 64, [.t 2]⟩

/- varve/man.Load -/
def a81 : AFunc := ⟨.seq (.region [
   ⟨some 2, .i (.alloc [(1, .int .i64 (.ofNat 0)), (1, .int .i64 (.ofNat 0)), (1, .int .i64 (.ofNat 0)), (1, .int .i64 (.ofNat 0)), (1, .list .full 7 []), (1, .list .full 8 [])]), [], none⟩,
   ⟨some 3, .p (.mv), [.c (.int .i64 (.ofNat 0))], none⟩])
 (.seq (.region [
    ⟨some 8, .p (.mv), [.t 0], none⟩,
    ⟨some 9, .i (.call 84), [.t 8, .c (.str [109, 97, 110, 105, 102, 101, 115, 116])], none⟩,
    ⟨some 7, .p (.mv), [.t 9], none⟩,
    ⟨some 10, .p (.ext 0), [.t 7], none⟩,
    ⟨some 11, .p (.ext 1), [.t 7], none⟩,
    ⟨some 4, .p (.mv), [.t 10], none⟩,
    ⟨some 5, .p (.mv), [.t 11], none⟩])
  (.seq (.seq (.region [
      ⟨some 12, .p (.mv), [.t 5], none⟩,
      ⟨some 13, .p (.bin .neq), [.t 12, .c (.int .i64 (.ofNat 0))], none⟩])
    (.cond (.t 13)
     (.seq (.region [
        ⟨some 14, .p (.build [(1, .int .i64 (.ofNat 0)), (1, .int .i64 (.ofNat 0)), (1, .int .i64 (.ofNat 0)), (1, .int .i64 (.ofNat 0)), (1, .list .full 7 []), (1, .list .full 8 [])] []), [], none⟩,
        ⟨none, .i (.store 6), [.t 2, .t 14], none⟩,
        ⟨some 3, .p (.mv), [.c (.int .i64 (.ofNat 3))], none⟩])
      (.ret))
     (.skip)))
   (.seq (.region [
      ⟨some 16, .p (.mv), [.t 4], none⟩,
      ⟨some 17, .i (.call 156), [.t 16], none⟩,
      ⟨some 15, .p (.mv), [.t 17], none⟩,
      ⟨some 18, .p (.ext 0), [.t 15], none⟩,
      ⟨some 19, .p (.ext 1), [.t 15], none⟩,
      ⟨some 6, .i (.alloc [(1, .int .i64 (.ofNat 0)), (1, .int .i64 (.ofNat 0)), (1, .int .i64 (.ofNat 0)), (1, .int .i64 (.ofNat 0)), (1, .list .full 7 []), (1, .list .full 8 [])]), [], none⟩,
      ⟨none, .i (.store 6), [.t 6, .t 18], none⟩,
      ⟨some 5, .p (.mv), [.t 19], none⟩])
    (.seq (.seq (.region [
        ⟨some 20, .p (.mv), [.t 5], none⟩,
        ⟨some 21, .p (.bin .neq), [.t 20, .c (.int .i64 (.ofNat 0))], none⟩])
      (.cond (.t 21)
       (.seq (.region [
          ⟨some 22, .p (.build [(1, .int .i64 (.ofNat 0)), (1, .int .i64 (.ofNat 0)), (1, .int .i64 (.ofNat 0)), (1, .int .i64 (.ofNat 0)), (1, .list .full 7 []), (1, .list .full 8 [])] []), [], none⟩,
          ⟨none, .i (.store 6), [.t 2, .t 22], none⟩,
          ⟨some 3, .p (.mv), [.c (.int .i64 (.ofNat 13))], none⟩])
        (.ret))
       (.skip)))
     (.seq (.region [
        ⟨some 23, .l (.load (some 6)), [.t 6], none⟩,
        ⟨none, .i (.store 6), [.t 2, .t 23], none⟩,
        ⟨some 3, .p (.mv), [.c (.int .i64 (.ofNat 0))], none⟩])
      (.ret)))))), 24, [.cell 2 (some 6), .t 3]⟩

/- varve/load.fresh -/
def a82 : AFunc := ⟨.seq (.region [
   ⟨some 4, .p (.mv), [.c (.nilp)], none⟩,
   ⟨some 5, .p (.mv), [.c (.int .i64 (.ofNat 0))], none⟩])
 (.seq (.region [
    ⟨some 10, .p (.mv), [.t 0], none⟩,
    ⟨some 11, .i (.call 64), [.t 10], none⟩,
    ⟨some 12, .i (.call 88), [.t 11, .c (.fn (.func 89) [] [])], none⟩,
    ⟨some 13, .p (.mv), [.t 0], none⟩,
    ⟨some 14, .i (.call 64), [.t 13], none⟩,
    ⟨some 15, .i (.call 88), [.t 14, .c (.fn (.func 157) [] [])], none⟩,
    ⟨some 16, .p (.mv), [.t 1], none⟩,
    ⟨some 17, .p (.build [(1, .int .i64 (.ofNat 0)), (1, .int .i64 (.ofNat 0)), (1, .int .i64 (.ofNat 0)), (1, .int .i64 (.ofNat 0)), (1, .list .full 7 []), (1, .list .full 8 [])] [(1, 1), (2, 1), (3, 1)]), [.t 12, .t 15, .t 16], none⟩,
    ⟨some 6, .i (.alloc [(1, .int .i64 (.ofNat 0)), (1, .int .i64 (.ofNat 0)), (1, .int .i64 (.ofNat 0)), (1, .int .i64 (.ofNat 0)), (1, .list .full 7 []), (1, .list .full 8 [])]), [], none⟩,
    ⟨none, .i (.store 6), [.t 6, .t 17], none⟩])
  (.seq (.seq (.region [
      ⟨some 18, .p (.faddr 1), [.t 6], none⟩,
      ⟨some 19, .l (.load none), [.t 18], none⟩,
      ⟨some 20, .p (.bin .gtr), [.t 19, .c (.int .i64 (.ofNat 90000000))], none⟩,
      ⟨some 21, .p (.mv), [.t 20], none⟩,
      ⟨some 22, .p (.faddr 2), [.t 6], some (21, false)⟩,
      ⟨some 23, .l (.load none), [.t 22], some (21, false)⟩,
      ⟨some 24, .p (.bin .gtr), [.t 23, .c (.int .i64 (.ofNat 90000000))], some (21, false)⟩,
      ⟨some 25, .p (.pick), [.t 21, .c (.bool true), .t 24], none⟩])
    (.cond (.t 25)
     (.seq (.region [
        ⟨some 4, .p (.mv), [.c (.nilp)], none⟩,
        ⟨some 5, .p (.mv), [.c (.int .i64 (.ofNat 13))], none⟩])
      (.ret))
     (.skip)))
   (.seq (.region [
      ⟨some 27, .p (.mv), [.t 0], none⟩,
      ⟨some 28, .p (.faddr 1), [.t 6], none⟩,
      ⟨some 29, .l (.load none), [.t 28], none⟩,
      ⟨some 30, .i (.call 87), [.t 27, .t 29], none⟩,
      ⟨some 26, .p (.mv), [.t 30], none⟩,
      ⟨some 31, .p (.ext 0), [.t 26], none⟩,
      ⟨some 32, .p (.ext 1), [.t 26], none⟩,
      ⟨some 33, .p (.ext 2), [.t 26], none⟩,
      ⟨some 7, .p (.mv), [.t 31], none⟩,
      ⟨some 8, .p (.mv), [.t 32], none⟩,
      ⟨some 9, .p (.mv), [.t 33], none⟩])
    (.seq (.draw (.q ⟨some 34, .l (.load (some 6)), [.t 6], none⟩ (.q ⟨some 35, .p (.mv), [.t 7], none⟩ (.q ⟨some 39, .p (.mv), [.t 9], none⟩ (.e ⟨some 36, .i (.call 83), [], none⟩ [⟨some 34, .l (.load (some 6)), [.t 6], none⟩] (.q ⟨some 37, .p (.build [(1, .int .i64 (.ofNat 0)), (1, .int .i64 (.ofNat 0)), (1, .int .i64 (.ofNat 0)), (1, .int .i64 (.ofNat 0)), (1, .list .full 7 []), (1, .list .full 8 []), (1, .bool false), (1, .list .full 8 []), (1, .nilp), (1, .nilp), (1, .list .full 8 []), (1, .int .i64 (.ofNat 0))] [(0, 6), (6, 1), (8, 1), (9, 1)]), [.t 34, .c (.bool true), .t 35, .t 36], none⟩ (.e ⟨some 38, .i (.box 12), [.t 37], none⟩ [] (.q ⟨some 4, .p (.mv), [.t 38], none⟩ (.q ⟨some 5, .p (.mv), [.t 39], none⟩ (.done))))))))))
     (.ret))))), 40, [.t 4, .t 5]⟩

/- varve/mem.New -/
def a83 : AFunc := ⟨.seq (.region [
   ⟨some 0, .p (.mv), [.c (.nilp)], none⟩])
 (.seq (.region [
    ⟨some 2, .i (.mkmap), [], none⟩,
    ⟨some 3, .p (.build [(1, .nilm)] [(0, 1)]), [.t 2], none⟩,
    ⟨some 4, .i (.box 1), [.t 3], none⟩,
    ⟨some 1, .p (.mv), [.t 4], none⟩])
  (.seq (.region [
     ⟨some 5, .p (.mv), [.t 1], none⟩,
     ⟨some 6, .i (.call 140), [.t 5], none⟩])
   (.seq (.region [
      ⟨some 7, .p (.mv), [.t 1], none⟩,
      ⟨some 0, .p (.mv), [.t 7], none⟩])
    (.ret)))), 8, [.t 0]⟩

/- (*varve/vfs.FS).Read -/
def a84 : AFunc := ⟨.seq (.region [
   ⟨some 4, .p (.mv), [.c (.list .full 1 [])], none⟩,
   ⟨some 5, .p (.mv), [.c (.int .i64 (.ofNat 0))], none⟩])
 (.seq (.seq (.region [
     ⟨some 6, .p (.mv), [.t 0], none⟩,
     ⟨some 7, .p (.isnil .ptr false), [.t 6], none⟩,
     ⟨some 8, .p (.mv), [.t 7], none⟩,
     ⟨some 9, .p (.mv), [.t 0], some (8, false)⟩,
     ⟨some 10, .p (.nilchk), [.t 9], some (8, false)⟩,
     ⟨some 11, .p (.faddr 1), [.t 10], some (8, false)⟩,
     ⟨some 12, .l (.load none), [.t 11], some (8, false)⟩,
     ⟨some 13, .p (.mv), [.t 1], some (8, false)⟩,
     ⟨some 14, .l (.lookup true [(1, .nilp)] false false), [.t 12, .t 13], some (8, false)⟩,
     ⟨some 15, .p (.isnil .ptr false), [.t 14], some (8, false)⟩,
     ⟨some 16, .p (.pick), [.t 8, .c (.bool true), .t 15], none⟩])
   (.cond (.t 16)
    (.seq (.region [
       ⟨some 4, .p (.mv), [.c (.list .full 1 [])], none⟩,
       ⟨some 5, .p (.mv), [.c (.int .i64 (.ofNat 3))], none⟩])
     (.ret))
    (.skip)))
  (.seq (.region [
     ⟨some 17, .p (.mv), [.t 0], none⟩,
     ⟨some 18, .p (.nilchk), [.t 17], none⟩,
     ⟨some 19, .p (.faddr 1), [.t 18], none⟩,
     ⟨some 20, .l (.load none), [.t 19], none⟩,
     ⟨some 21, .p (.mv), [.t 1], none⟩,
     ⟨some 22, .l (.lookup true [(1, .nilp)] false false), [.t 20, .t 21], none⟩,
     ⟨some 23, .p (.nilchk), [.t 22], none⟩,
     ⟨some 24, .p (.faddr 3), [.t 23], none⟩,
     ⟨some 25, .l (.load none), [.t 24], none⟩,
     ⟨some 26, .i (.append 1 1), [.c (.list .full 1 []), .t 25], none⟩,
     ⟨some 4, .p (.mv), [.t 26], none⟩,
     ⟨some 5, .p (.mv), [.c (.int .i64 (.ofNat 0))], none⟩])
   (.ret))), 27, [.t 4, .t 5]⟩

/- varve/block.Name -/
def a85 : AFunc := ⟨.seq (.region [
   ⟨some 2, .p (.mv), [.c (.str [])], none⟩])
 (.seq (.region [
    ⟨some 3, .p (.mv), [.t 0], none⟩,
    ⟨some 4, .i (.call 158), [.c (.str [98, 108, 107, 45]), .t 3], none⟩,
    ⟨some 2, .p (.mv), [.t 4], none⟩])
  (.ret)), 5, [.t 2]⟩

/- varve/wal.Open -/
def a87 : AFunc := ⟨.seq (.region [
   ⟨some 4, .i (.alloc [(1, .nilp)]), [], none⟩,
   ⟨some 5, .i (.alloc [(1, .list .full 18 [])]), [], none⟩,
   ⟨some 6, .i (.alloc [(1, .int .i64 (.ofNat 0))]), [], none⟩])
 (.seq (.seq (.region [
     ⟨some 18, .p (.mv), [.t 1], none⟩,
     ⟨some 19, .i (.call 100), [.t 18], none⟩,
     ⟨some 20, .p (.bin .eql), [.t 19, .c (.str [])], none⟩])
   (.cond (.t 20)
    (.seq (.region [
       ⟨none, .i (.store 1), [.t 4, .c (.nilp)], none⟩,
       ⟨none, .i (.store 1), [.t 5, .c (.list .full 18 [])], none⟩,
       ⟨none, .i (.store 1), [.t 6, .c (.int .i64 (.ofNat 1))], none⟩])
     (.ret))
    (.skip)))
  (.seq (.region [
     ⟨some 21, .p (.mv), [.t 0], none⟩,
     ⟨some 22, .p (.mv), [.t 1], none⟩,
     ⟨some 23, .p (.build [(1, .nilp), (1, .int .i64 (.ofNat 0)), (1, .int .i64 (.ofNat 0)), (1, .int .i64 (.ofNat 0))] [(0, 1), (1, 1), (3, 1)]), [.t 21, .t 22, .c (.int .i64 (.ofNat 3))], none⟩,
     ⟨some 24, .i (.box 4), [.t 23], none⟩,
     ⟨some 7, .p (.mv), [.t 24], none⟩])
   (.seq (.region [
      ⟨some 8, .i (.alloc [(1, .list .full 18 [])]), [], none⟩])
    (.seq (.region [
       ⟨some 25, .p (.mv), [.t 1], none⟩,
       ⟨some 9, .p (.mv), [.t 25], none⟩])
     (.block 0 (.loop (.seq (.block 1 (.seq (.region [
            ⟨some 29, .p (.mv), [.t 0], none⟩,
            ⟨some 30, .p (.mv), [.t 9], none⟩,
            ⟨some 31, .i (.call 100), [.t 30], none⟩,
            ⟨some 32, .i (.call 84), [.t 29, .t 31], none⟩,
            ⟨some 28, .p (.mv), [.t 32], none⟩,
            ⟨some 33, .p (.ext 0), [.t 28], none⟩,
            ⟨some 34, .p (.ext 1), [.t 28], none⟩,
            ⟨some 10, .p (.mv), [.t 33], none⟩,
            ⟨some 11, .p (.mv), [.t 34], none⟩])
          (.seq (.seq (.region [
              ⟨some 35, .p (.mv), [.t 11], none⟩,
              ⟨some 36, .p (.bin .neq), [.t 35, .c (.int .i64 (.ofNat 0))], none⟩])
            (.cond (.t 36)
             (.seq (.draw (.q ⟨some 37, .p (.mv), [.t 7], none⟩ (.q ⟨some 38, .l (.load none), [.t 8], none⟩ (.e ⟨none, .i (.store 1), [.t 4, .t 37], none⟩ [⟨some 38, .l (.load none), [.t 8], none⟩] (.e ⟨none, .i (.store 1), [.t 5, .t 38], none⟩ [] (.e ⟨none, .i (.store 1), [.t 6, .c (.int .i64 (.ofNat 0))], none⟩ [] (.done)))))))
              (.ret))
             (.skip)))
           (.seq (.seq (.region [
               ⟨some 39, .p (.mv), [.t 7], none⟩,
               ⟨some 40, .p (.nilchk), [.t 39], none⟩,
               ⟨some 41, .p (.faddr 3), [.t 40], none⟩,
               ⟨some 42, .l (.load none), [.t 41], none⟩,
               ⟨some 43, .p (.bin .eql), [.t 42, .c (.int .i64 (.ofNat 2))], none⟩])
             (.cond (.t 43)
              (.seq (.region [
                 ⟨none, .i (.store 1), [.t 4, .c (.nilp)], none⟩,
                 ⟨none, .i (.store 1), [.t 5, .c (.list .full 18 [])], none⟩,
                 ⟨none, .i (.store 1), [.t 6, .c (.int .i64 (.ofNat 13))], none⟩])
               (.ret))
              (.skip)))
            (.seq (.seq (.region [
                ⟨some 44, .p (.mv), [.t 10], none⟩,
                ⟨some 45, .i (.call 159), [.t 44], none⟩])
              (.block 2 (.rangeFunc (.t 45) [46, 47] (.region [
                  ⟨some 13, .p (.mv), [.t 47], none⟩]) (.block 3 (.seq (.region [
                    ⟨some 49, .p (.mv), [.t 13], none⟩,
                    ⟨some 50, .i (.call 166), [.t 49], none⟩,
                    ⟨some 48, .p (.mv), [.t 50], none⟩,
                    ⟨some 51, .p (.ext 0), [.t 48], none⟩,
                    ⟨some 52, .p (.ext 1), [.t 48], none⟩,
                    ⟨some 14, .i (.alloc [(1, .int .i64 (.ofNat 0)), (1, .int .i64 (.ofNat 0)), (1, .list .full 2 []), (1, .int .i64 (.ofNat 0)), (1, .list .full 2 []), (1, .list .full 1 []), (1, .int .u64 (.ofNat 0)), (1, .int .u64 (.ofNat 0)), (1, .int .u64 (.ofNat 0)), (1, .int .u64 (.ofNat 0)), (1, .int .i64 (.ofNat 0)), (1, .int .i64 (.ofNat 0)), (1, .str []), (1, .str []), (1, .list .full 1 []), (1, .list .full 5 []), (1, .int .i64 (.ofNat 0)), (1, .int .i64 (.ofNat 0))]), [], none⟩,
                    ⟨none, .i (.store 18), [.t 14, .t 51], none⟩,
                    ⟨some 15, .p (.mv), [.t 52], none⟩])
                  (.seq (.seq (.region [
                      ⟨some 53, .p (.mv), [.t 15], none⟩,
                      ⟨some 54, .p (.un .not), [.t 53], none⟩])
                    (.cond (.t 54)
                     (.seq (.region [
                        ⟨none, .i (.store 1), [.t 4, .c (.nilp)], none⟩,
                        ⟨none, .i (.store 1), [.t 5, .c (.list .full 18 [])], none⟩,
                        ⟨none, .i (.store 1), [.t 6, .c (.int .i64 (.ofNat 13))], none⟩])
                      (.ret))
                     (.skip)))
                   (.region [
                     ⟨some 55, .l (.load none), [.t 8], none⟩,
                     ⟨some 56, .l (.load (some 18)), [.t 14], none⟩,
                     ⟨some 57, .p (.bsl 18 1 true [(1, .int .i64 (.ofNat 0)), (1, .int .i64 (.ofNat 0)), (1, .list .full 2 []), (1, .int .i64 (.ofNat 0)), (1, .list .full 2 []), (1, .list .full 1 []), (1, .int .u64 (.ofNat 0)), (1, .int .u64 (.ofNat 0)), (1, .int .u64 (.ofNat 0)), (1, .int .u64 (.ofNat 0)), (1, .int .i64 (.ofNat 0)), (1, .int .i64 (.ofNat 0)), (1, .str []), (1, .str []), (1, .list .full 1 []), (1, .list .full 5 []), (1, .int .i64 (.ofNat 0)), (1, .int .i64 (.ofNat 0))] [(0, 18)]), [.t 56], none⟩,
                     ⟨some 58, .i (.append 18 240), [.t 55, .t 57], none⟩,
                     ⟨none, .i (.store 1), [.t 8, .t 58], none⟩])))))))
             (.seq (.region [
                ⟨some 60, .p (.mv), [.t 10], none⟩,
                ⟨some 61, .i (.call 167), [.t 60], none⟩,
                ⟨some 59, .p (.mv), [.t 61], none⟩,
                ⟨some 62, .p (.ext 0), [.t 59], none⟩,
                ⟨some 63, .p (.ext 1), [.t 59], none⟩,
                ⟨some 16, .p (.mv), [.t 62], none⟩,
                ⟨some 17, .p (.mv), [.t 63], none⟩])
              (.seq (.region [
                 ⟨some 64, .p (.mv), [.t 7], none⟩,
                 ⟨some 65, .p (.mv), [.t 7], none⟩,
                 ⟨some 66, .p (.mv), [.t 7], none⟩,
                 ⟨some 67, .p (.mv), [.t 9], none⟩,
                 ⟨some 68, .p (.mv), [.t 16], none⟩,
                 ⟨some 69, .p (.nilchk), [.t 64], none⟩,
                 ⟨some 70, .p (.faddr 1), [.t 69], none⟩,
                 ⟨none, .i (.store 1), [.t 70, .t 67], none⟩,
                 ⟨some 71, .p (.nilchk), [.t 65], none⟩,
                 ⟨some 72, .p (.faddr 2), [.t 71], none⟩,
                 ⟨none, .i (.store 1), [.t 72, .t 68], none⟩,
                 ⟨some 73, .p (.nilchk), [.t 66], none⟩,
                 ⟨some 74, .p (.faddr 3), [.t 73], none⟩,
                 ⟨none, .i (.store 1), [.t 74, .c (.int .i64 (.ofNat 1))], none⟩])
               (.seq (.region [
                  ⟨some 75, .p (.mv), [.t 17], none⟩,
                  ⟨some 76, .p (.un .not), [.t 75], none⟩])
                (.cond (.t 76)
                 (.region [
                   ⟨some 77, .p (.mv), [.t 7], none⟩,
                   ⟨some 78, .p (.nilchk), [.t 77], none⟩,
                   ⟨some 79, .p (.faddr 3), [.t 78], none⟩,
                   ⟨none, .i (.store 1), [.t 79, .c (.int .i64 (.ofNat 2))], none⟩])
                 (.skip))))))))))
        (.region [
          ⟨some 26, .p (.mv), [.t 9], none⟩,
          ⟨some 27, .p (.bin .add), [.t 26, .c (.int .i64 (.ofNat 1))], none⟩,
          ⟨some 9, .p (.mv), [.t 27], none⟩])))))))), 80, [.cell 4 none, .cell 5 none, .cell 6 none]⟩

/- varve/load.behind -/
def a88 : AFunc := ⟨.seq (.region [
   ⟨some 4, .p (.mv), [.c (.int .i64 (.ofNat 0))], none⟩])
 (.seq (.region [
    ⟨some 5, .p (.mv), [.c (.int .i64 (.ofNat 1))], none⟩])
  (.seq (.seq (.region [
      ⟨some 10, .p (.mv), [.t 0], none⟩,
      ⟨some 11, .p (.lenL), [.t 10], none⟩,
      ⟨some 12, .p (.mv), [.c (.int .i64 (.ofNat 0))], none⟩])
    (.block 0 (.loop (.seq (.region [
         ⟨some 13, .p (.bin .lss), [.t 12, .t 11], none⟩])
       (.seq (.cond (.t 13)
         (.skip)
         (.exit 0))
        (.seq (.block 1 (.seq (.region [
             ⟨some 14, .p (.iaddr 1), [.t 10, .t 12], none⟩,
             ⟨some 15, .l (.load none), [.t 14], none⟩,
             ⟨some 7, .p (.mv), [.t 15], none⟩])
           (.seq (.region [
              ⟨some 17, .p (.mv), [.t 1], none⟩,
              ⟨some 18, .p (.mv), [.t 7], none⟩,
              ⟨some 19, .i (.callv), [.t 17, .t 18], none⟩,
              ⟨some 16, .p (.mv), [.t 19], none⟩,
              ⟨some 20, .p (.ext 0), [.t 16], none⟩,
              ⟨some 21, .p (.ext 1), [.t 16], none⟩,
              ⟨some 8, .p (.mv), [.t 20], none⟩,
              ⟨some 9, .p (.mv), [.t 21], none⟩])
            (.seq (.region [
               ⟨some 22, .p (.mv), [.t 9], none⟩])
             (.cond (.t 22)
              (.region [
                ⟨some 23, .p (.mv), [.t 5], none⟩,
                ⟨some 24, .p (.mv), [.t 8], none⟩,
                ⟨some 25, .p (.bin .add), [.t 24, .c (.int .i64 (.ofNat 1))], none⟩,
                ⟨some 26, .p (.mx), [.t 23, .t 25], none⟩,
                ⟨some 5, .p (.mv), [.t 26], none⟩])
              (.skip))))))
         (.region [
           ⟨some 27, .p (.bin .add), [.t 12, .c (.int .i64 (.ofNat 1))], none⟩,
           ⟨some 12, .p (.mv), [.t 27], none⟩])))))))
   (.seq (.region [
      ⟨some 28, .p (.mv), [.t 5], none⟩,
      ⟨some 4, .p (.mv), [.t 28], none⟩])
    (.ret)))), 29, [.t 4]⟩

/- (*varve/engine.Engine).writes$1 -/
def a90 : AFunc := ⟨.seq (.seq (.region [
    ⟨some 2, .l (.load none), [.t 0], none⟩])
  (.block 0 (.seq (.seq (.region [
       ⟨some 4, .p (.bin .eql), [.t 2, .c (.int .i64 (.ofNat 0))], none⟩,
       ⟨some 3, .p (.mv), [.t 4], none⟩])
     (.cond (.t 3)
      (.skip)
      (.region [
        ⟨some 5, .p (.bin .eql), [.t 2, .c (.int .i64 (.ofNat 14))], none⟩,
        ⟨some 3, .p (.mv), [.t 5], none⟩])))
    (.cond (.t 3)
     (.skip)
     (.region [
       ⟨none, .i (.store 1), [.t 0, .c (.int .i64 (.ofNat 15))], none⟩])))))
 (.draw (.q ⟨some 6, .l (.load none), [.t 1], none⟩ (.q ⟨some 7, .l (.load none), [.t 1], none⟩ (.q ⟨some 8, .p (.nilchk), [.t 7], none⟩ (.q ⟨some 9, .p (.faddr 9), [.t 8], none⟩ (.q ⟨some 10, .l (.load none), [.t 9], none⟩ (.q ⟨some 11, .p (.mv), [.t 10], none⟩ (.q ⟨some 12, .l (.load none), [.t 0], some (11, false)⟩ (.q ⟨some 13, .p (.bin .neq), [.t 12, .c (.int .i64 (.ofNat 0))], some (11, false)⟩ (.q ⟨some 14, .p (.pick), [.t 11, .c (.bool true), .t 13], none⟩ (.q ⟨some 15, .p (.nilchk), [.t 6], none⟩ (.q ⟨some 16, .p (.faddr 9), [.t 15], none⟩ (.e ⟨none, .i (.store 1), [.t 16, .t 14], none⟩ [] (.done)))))))))))))), 17, []⟩

/- varve/man.Encode -/
def a91 : AFunc := ⟨.seq (.region [
   ⟨some 1, .i (.box 6), [.t 0], none⟩,
   ⟨some 2, .p (.mv), [.c (.list .full 1 [])], none⟩,
   ⟨some 3, .p (.mv), [.c (.int .i64 (.ofNat 0))], none⟩])
 (.seq (.seq (.region [
     ⟨some 12, .l (.load (some 6)), [.t 1], none⟩,
     ⟨some 13, .i (.call 169), [.t 12], none⟩,
     ⟨some 14, .p (.un .not), [.t 13], none⟩])
   (.cond (.t 14)
    (.seq (.region [
       ⟨some 2, .p (.mv), [.c (.list .full 1 [])], none⟩,
       ⟨some 3, .p (.mv), [.c (.int .i64 (.ofNat 5))], none⟩])
     (.ret))
    (.skip)))
  (.seq (.region [
     ⟨some 4, .p (.mv), [.c (.list .full 1 [])], none⟩])
   (.seq (.seq (.region [
       ⟨some 15, .p (.faddr 0), [.t 1], none⟩,
       ⟨some 16, .l (.load none), [.t 15], none⟩,
       ⟨some 17, .p (.faddr 1), [.t 1], none⟩,
       ⟨some 18, .l (.load none), [.t 17], none⟩,
       ⟨some 19, .p (.faddr 2), [.t 1], none⟩,
       ⟨some 20, .l (.load none), [.t 19], none⟩,
       ⟨some 21, .p (.faddr 3), [.t 1], none⟩,
       ⟨some 22, .l (.load none), [.t 21], none⟩,
       ⟨some 23, .p (.build [(1, .int .i64 (.ofNat 0)), (1, .int .i64 (.ofNat 0)), (1, .int .i64 (.ofNat 0)), (1, .int .i64 (.ofNat 0))] [(0, 1), (1, 1), (2, 1), (3, 1)]), [.t 16, .t 18, .t 20, .t 22], none⟩,
       ⟨some 24, .p (.mv), [.c (.int .i64 (.ofNat 0))], none⟩])
     (.block 0 (.loop (.seq (.region [
          ⟨some 25, .p (.bin .lss), [.t 24, .c (.int .i64 (.ofNat 4))], none⟩])
        (.seq (.cond (.t 25)
          (.skip)
          (.exit 0))
         (.seq (.block 1 (.seq (.region [
              ⟨some 26, .p (.idxA 4 1 none), [.t 23, .t 24], none⟩,
              ⟨some 6, .p (.mv), [.t 26], none⟩])
            (.region [
              ⟨some 27, .p (.mv), [.t 4], none⟩,
              ⟨some 28, .p (.mv), [.t 6], none⟩,
              ⟨some 29, .i (.call 170), [.t 27, .t 28], none⟩,
              ⟨some 4, .p (.mv), [.t 29], none⟩])))
          (.region [
            ⟨some 30, .p (.bin .add), [.t 24, .c (.int .i64 (.ofNat 1))], none⟩,
            ⟨some 24, .p (.mv), [.t 30], none⟩])))))))
    (.seq (.region [
       ⟨some 31, .p (.mv), [.t 4], none⟩,
       ⟨some 32, .p (.faddr 4), [.t 1], none⟩,
       ⟨some 33, .l (.load none), [.t 32], none⟩,
       ⟨some 34, .p (.lenL), [.t 33], none⟩,
       ⟨some 35, .p (.convI .u64), [.t 34], none⟩,
       ⟨some 36, .i (.call 171), [.t 31, .t 35], none⟩,
       ⟨some 4, .p (.mv), [.t 36], none⟩])
     (.seq (.seq (.region [
         ⟨some 37, .p (.faddr 4), [.t 1], none⟩,
         ⟨some 38, .l (.load none), [.t 37], none⟩,
         ⟨some 39, .p (.lenL), [.t 38], none⟩,
         ⟨some 40, .p (.mv), [.c (.int .i64 (.ofNat 0))], none⟩])
       (.block 2 (.loop (.seq (.region [
            ⟨some 41, .p (.bin .lss), [.t 40, .t 39], none⟩])
          (.seq (.cond (.t 41)
            (.skip)
            (.exit 2))
           (.seq (.block 3 (.seq (.region [
                ⟨some 42, .p (.iaddr 7), [.t 38, .t 40], none⟩,
                ⟨some 43, .l (.load (some 7)), [.t 42], none⟩,
                ⟨some 8, .i (.alloc [(1, .int .i64 (.ofNat 0)), (1, .int .i64 (.ofNat 0)), (1, .int .i64 (.ofNat 0)), (1, .int .i64 (.ofNat 0)), (1, .int .i64 (.ofNat 0)), (1, .int .i64 (.ofNat 0)), (1, .int .i64 (.ofNat 0))]), [], none⟩,
                ⟨none, .i (.store 7), [.t 8, .t 43], none⟩])
              (.seq (.region [
                 ⟨some 44, .p (.faddr 0), [.t 8], none⟩,
                 ⟨some 45, .l (.load none), [.t 44], none⟩,
                 ⟨some 46, .p (.faddr 1), [.t 8], none⟩,
                 ⟨some 47, .l (.load none), [.t 46], none⟩,
                 ⟨some 48, .p (.faddr 2), [.t 8], none⟩,
                 ⟨some 49, .l (.load none), [.t 48], none⟩,
                 ⟨some 50, .p (.faddr 3), [.t 8], none⟩,
                 ⟨some 51, .l (.load none), [.t 50], none⟩,
                 ⟨some 52, .p (.faddr 4), [.t 8], none⟩,
                 ⟨some 53, .l (.load none), [.t 52], none⟩,
                 ⟨some 54, .p (.faddr 5), [.t 8], none⟩,
                 ⟨some 55, .l (.load none), [.t 54], none⟩,
                 ⟨some 56, .p (.faddr 6), [.t 8], none⟩,
                 ⟨some 57, .l (.load none), [.t 56], none⟩,
                 ⟨some 58, .p (.build [(1, .int .i64 (.ofNat 0)), (1, .int .i64 (.ofNat 0)), (1, .int .i64 (.ofNat 0)), (1, .int .i64 (.ofNat 0)), (1, .int .i64 (.ofNat 0)), (1, .int .i64 (.ofNat 0)), (1, .int .i64 (.ofNat 0))] [(0, 1), (1, 1), (2, 1), (3, 1), (4, 1), (5, 1), (6, 1)]), [.t 45, .t 47, .t 49, .t 51, .t 53, .t 55, .t 57], none⟩,
                 ⟨some 59, .p (.mv), [.c (.int .i64 (.ofNat 0))], none⟩])
               (.block 4 (.loop (.seq (.region [
                    ⟨some 60, .p (.bin .lss), [.t 59, .c (.int .i64 (.ofNat 7))], none⟩])
                  (.seq (.cond (.t 60)
                    (.skip)
                    (.exit 4))
                   (.seq (.block 5 (.seq (.region [
                        ⟨some 61, .p (.idxA 7 1 none), [.t 58, .t 59], none⟩,
                        ⟨some 10, .p (.mv), [.t 61], none⟩])
                      (.region [
                        ⟨some 62, .p (.mv), [.t 4], none⟩,
                        ⟨some 63, .p (.mv), [.t 10], none⟩,
                        ⟨some 64, .i (.call 170), [.t 62, .t 63], none⟩,
                        ⟨some 4, .p (.mv), [.t 64], none⟩])))
                    (.region [
                      ⟨some 65, .p (.bin .add), [.t 59, .c (.int .i64 (.ofNat 1))], none⟩,
                      ⟨some 59, .p (.mv), [.t 65], none⟩])))))))))
            (.region [
              ⟨some 66, .p (.bin .add), [.t 40, .c (.int .i64 (.ofNat 1))], none⟩,
              ⟨some 40, .p (.mv), [.t 66], none⟩])))))))
      (.seq (.region [
         ⟨some 68, .p (.mv), [.t 4], none⟩,
         ⟨some 69, .p (.faddr 5), [.t 1], none⟩,
         ⟨some 70, .l (.load none), [.t 69], none⟩,
         ⟨some 71, .i (.call 172), [.t 68, .t 70], none⟩,
         ⟨some 72, .i (.call 149), [.c (.list .full 1 []), .t 71], none⟩,
         ⟨some 67, .p (.mv), [.t 72], none⟩,
         ⟨some 73, .p (.ext 0), [.t 67], none⟩,
         ⟨some 74, .p (.ext 1), [.t 67], none⟩,
         ⟨some 4, .p (.mv), [.t 73], none⟩,
         ⟨some 11, .p (.mv), [.t 74], none⟩])
       (.seq (.seq (.region [
           ⟨some 75, .p (.mv), [.t 11], none⟩,
           ⟨some 76, .p (.bin .neq), [.t 75, .c (.int .i64 (.ofNat 0))], none⟩])
         (.cond (.t 76)
          (.seq (.region [
             ⟨some 2, .p (.mv), [.c (.list .full 1 [])], none⟩,
             ⟨some 3, .p (.mv), [.c (.int .i64 (.ofNat 5))], none⟩])
           (.ret))
          (.skip)))
        (.seq (.region [
           ⟨some 77, .p (.mv), [.t 4], none⟩,
           ⟨some 2, .p (.mv), [.t 77], none⟩,
           ⟨some 3, .p (.mv), [.c (.int .i64 (.ofNat 0))], none⟩])
         (.ret))))))))), 78, [.t 2, .t 3]⟩

end Go.Am.Tab
