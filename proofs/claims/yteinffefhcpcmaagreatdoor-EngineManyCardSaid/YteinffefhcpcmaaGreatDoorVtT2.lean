/- The functions' code as the abstract machine reads it: written by a program of this session. -/
import Derived.Test.YteinffefhcpcmaaGreatDoorAmA
set_option linter.unusedVariables false
set_option linter.unusedSimpArgs false
set_option linter.unusedSectionVars false
namespace Go.Am.Tab
open Go.Am
/- varve/man.Publish$1 -/
def a92 : AFunc := ⟨.seq (.region [
   ⟨some 1, .p (.mv), [.c (.int .i64 (.ofNat 0))], none⟩])
 (.seq (.region [
    ⟨some 2, .l (.load none), [.t 0], none⟩,
    ⟨some 3, .i (.call 93), [.t 2, .c (.str [109, 97, 110, 105, 102, 101, 115, 116, 46, 116, 109, 112])], none⟩,
    ⟨some 1, .p (.mv), [.t 3], none⟩])
  (.ret)), 4, [.t 1]⟩

/- (*varve/vfs.FS).Create -/
def a93 : AFunc := ⟨.seq (.region [
   ⟨some 4, .p (.mv), [.c (.int .i64 (.ofNat 0))], none⟩])
 (.seq (.seq (.region [
     ⟨some 6, .p (.mv), [.t 0], none⟩,
     ⟨some 7, .i (.call 144), [.t 6], none⟩,
     ⟨some 5, .p (.mv), [.t 7], none⟩])
   (.seq (.region [
      ⟨some 8, .p (.mv), [.t 5], none⟩,
      ⟨some 9, .p (.bin .neq), [.t 8, .c (.int .i64 (.ofNat 0))], none⟩])
    (.cond (.t 9)
     (.seq (.region [
        ⟨some 10, .p (.mv), [.t 5], none⟩,
        ⟨some 4, .p (.mv), [.t 10], none⟩])
      (.ret))
     (.skip))))
  (.seq (.seq (.region [
      ⟨some 11, .p (.mv), [.t 1], none⟩,
      ⟨some 12, .p (.bsl 1 1 false [(1, .str [])] [(0, 1)]), [.t 11], none⟩,
      ⟨some 13, .i (.call 173), [.t 12], none⟩,
      ⟨some 14, .p (.un .not), [.t 13], none⟩])
    (.cond (.t 14)
     (.seq (.region [
        ⟨some 4, .p (.mv), [.c (.int .i64 (.ofNat 1))], none⟩])
      (.ret))
     (.skip)))
   (.seq (.seq (.region [
       ⟨some 15, .p (.mv), [.t 0], none⟩,
       ⟨some 16, .p (.nilchk), [.t 15], none⟩,
       ⟨some 17, .p (.faddr 1), [.t 16], none⟩,
       ⟨some 18, .l (.load none), [.t 17], none⟩,
       ⟨some 19, .p (.mv), [.t 1], none⟩,
       ⟨some 20, .l (.lookup true [(1, .nilp)] false false), [.t 18, .t 19], none⟩,
       ⟨some 21, .p (.isnil .ptr false), [.t 20], none⟩,
       ⟨some 22, .p (.mv), [.t 21], none⟩,
       ⟨some 23, .p (.mv), [.t 0], some (22, true)⟩,
       ⟨some 24, .p (.nilchk), [.t 23], some (22, true)⟩,
       ⟨some 25, .p (.faddr 1), [.t 24], some (22, true)⟩,
       ⟨some 26, .l (.load none), [.t 25], some (22, true)⟩,
       ⟨some 27, .l (.lenM), [.t 26], some (22, true)⟩,
       ⟨some 28, .p (.bin .geq), [.t 27, .c (.int .i64 (.ofNat 1024))], some (22, true)⟩,
       ⟨some 29, .p (.pick), [.t 22, .t 28, .c (.bool false)], none⟩])
     (.cond (.t 29)
      (.seq (.region [
         ⟨some 4, .p (.mv), [.c (.int .i64 (.ofNat 2))], none⟩])
       (.ret))
      (.skip)))
    (.seq (.region [
       ⟨some 30, .p (.mv), [.t 0], none⟩,
       ⟨some 31, .p (.mv), [.t 1], none⟩,
       ⟨some 32, .p (.mv), [.t 0], none⟩,
       ⟨some 33, .p (.nilchk), [.t 32], none⟩,
       ⟨some 34, .p (.faddr 3), [.t 33], none⟩,
       ⟨some 35, .l (.load none), [.t 34], none⟩,
       ⟨some 36, .p (.build [(1, .int .i64 (.ofNat 0)), (1, .list .full 1 []), (1, .list .full 3 []), (1, .list .full 1 [])] [(0, 1)]), [.t 35], none⟩,
       ⟨some 37, .i (.box 4), [.t 36], none⟩,
       ⟨some 38, .p (.build [(1, .int .i64 (.ofNat 0)), (1, .str []), (1, .str []), (1, .nilp)] [(0, 1), (1, 1), (3, 1)]), [.c (.int .i64 (.ofNat 0)), .t 31, .t 37], none⟩,
       ⟨some 39, .i (.call 146), [.t 30, .t 38], none⟩])
     (.seq (.region [
        ⟨some 40, .p (.mv), [.t 0], none⟩,
        ⟨some 41, .p (.nilchk), [.t 40], none⟩,
        ⟨some 42, .p (.faddr 3), [.t 41], none⟩,
        ⟨some 43, .l (.load none), [.t 42], none⟩,
        ⟨some 44, .p (.bin .add), [.t 43, .c (.int .i64 (.ofNat 1))], none⟩,
        ⟨some 45, .p (.nilchk), [.t 40], none⟩,
        ⟨some 46, .p (.faddr 3), [.t 45], none⟩,
        ⟨none, .i (.store 1), [.t 46, .t 44], none⟩])
      (.seq (.region [
         ⟨some 4, .p (.mv), [.c (.int .i64 (.ofNat 0))], none⟩])
       (.ret))))))), 47, [.t 4]⟩

/- varve/man.Publish$2 -/
def a94 : AFunc := ⟨.seq (.region [
   ⟨some 2, .p (.mv), [.c (.int .i64 (.ofNat 0))], none⟩])
 (.seq (.region [
    ⟨some 3, .l (.load none), [.t 0], none⟩,
    ⟨some 4, .l (.load none), [.t 1], none⟩,
    ⟨some 5, .i (.call 95), [.t 3, .c (.str [109, 97, 110, 105, 102, 101, 115, 116, 46, 116, 109, 112]), .t 4], none⟩,
    ⟨some 2, .p (.mv), [.t 5], none⟩])
  (.ret)), 6, [.t 2]⟩

/- (*varve/vfs.FS).Append -/
def a95 : AFunc := ⟨.seq (.region [
   ⟨some 6, .p (.mv), [.c (.int .i64 (.ofNat 0))], none⟩])
 (.seq (.region [
    ⟨some 12, .p (.mv), [.t 0], none⟩,
    ⟨some 13, .p (.nilchk), [.t 12], none⟩,
    ⟨some 14, .p (.faddr 8), [.t 13], none⟩,
    ⟨some 15, .l (.load none), [.t 14], none⟩,
    ⟨some 7, .p (.mv), [.t 15], none⟩])
  (.seq (.region [
     ⟨some 16, .p (.mv), [.t 0], none⟩,
     ⟨some 17, .i (.call 144), [.t 16], none⟩,
     ⟨some 8, .p (.mv), [.t 17], none⟩])
   (.seq (.region [
      ⟨some 19, .p (.mv), [.t 0], none⟩,
      ⟨some 20, .p (.mv), [.t 1], none⟩,
      ⟨some 21, .i (.call 145), [.t 19, .t 20], none⟩,
      ⟨some 18, .p (.mv), [.t 21], none⟩,
      ⟨some 22, .p (.ext 0), [.t 18], none⟩,
      ⟨some 23, .p (.ext 1), [.t 18], none⟩,
      ⟨some 9, .p (.mv), [.t 22], none⟩,
      ⟨some 10, .p (.mv), [.t 23], none⟩])
    (.seq (.seq (.region [
        ⟨some 24, .p (.mv), [.t 8], none⟩,
        ⟨some 25, .p (.bin .neq), [.t 24, .c (.int .i64 (.ofNat 0))], none⟩])
      (.cond (.t 25)
       (.seq (.region [
          ⟨some 26, .p (.mv), [.t 2], none⟩,
          ⟨some 27, .p (.mv), [.t 2], none⟩,
          ⟨some 28, .p (.lenL), [.t 27], none⟩,
          ⟨some 29, .p (.bin .quo), [.t 28, .c (.int .i64 (.ofNat 2))], none⟩,
          ⟨some 30, .p (.slL 1 false true false), [.t 26, .t 29], none⟩,
          ⟨some 11, .p (.mv), [.t 30], none⟩])
        (.seq (.seq (.region [
            ⟨some 31, .p (.mv), [.t 7], none⟩,
            ⟨some 32, .p (.un .not), [.t 31], none⟩,
            ⟨some 33, .p (.mv), [.t 32], none⟩,
            ⟨some 34, .p (.mv), [.t 10], some (33, true)⟩,
            ⟨some 35, .p (.bin .eql), [.t 34, .c (.int .i64 (.ofNat 0))], some (33, true)⟩,
            ⟨some 36, .p (.pick), [.t 33, .t 35, .c (.bool false)], none⟩,
            ⟨some 37, .p (.mv), [.t 36], none⟩,
            ⟨some 38, .p (.mv), [.t 11], some (37, true)⟩,
            ⟨some 39, .p (.lenL), [.t 38], some (37, true)⟩,
            ⟨some 40, .p (.mv), [.t 9], some (37, true)⟩,
            ⟨some 41, .p (.nilchk), [.t 40], some (37, true)⟩,
            ⟨some 42, .p (.faddr 3), [.t 41], some (37, true)⟩,
            ⟨some 43, .l (.load none), [.t 42], some (37, true)⟩,
            ⟨some 44, .p (.lenL), [.t 43], some (37, true)⟩,
            ⟨some 45, .p (.bin .sub), [.c (.int .i64 (.ofNat 1073741824)), .t 44], some (37, true)⟩,
            ⟨some 46, .p (.bin .leq), [.t 39, .t 45], some (37, true)⟩,
            ⟨some 47, .p (.pick), [.t 37, .t 46, .c (.bool false)], none⟩])
          (.cond (.t 47)
           (.region [
             ⟨some 48, .p (.mv), [.t 9], none⟩,
             ⟨some 49, .p (.mv), [.t 11], none⟩,
             ⟨some 50, .i (.call 174), [.t 48, .t 49], none⟩])
           (.skip)))
         (.seq (.region [
            ⟨some 51, .p (.mv), [.t 8], none⟩,
            ⟨some 6, .p (.mv), [.t 51], none⟩])
          (.ret))))
       (.skip)))
     (.seq (.seq (.region [
         ⟨some 52, .p (.mv), [.t 10], none⟩,
         ⟨some 53, .p (.bin .neq), [.t 52, .c (.int .i64 (.ofNat 0))], none⟩])
       (.cond (.t 53)
        (.seq (.region [
           ⟨some 54, .p (.mv), [.t 10], none⟩,
           ⟨some 6, .p (.mv), [.t 54], none⟩])
         (.ret))
        (.skip)))
      (.seq (.seq (.region [
          ⟨some 55, .p (.mv), [.t 2], none⟩,
          ⟨some 56, .p (.lenL), [.t 55], none⟩,
          ⟨some 57, .p (.mv), [.t 9], none⟩,
          ⟨some 58, .p (.nilchk), [.t 57], none⟩,
          ⟨some 59, .p (.faddr 3), [.t 58], none⟩,
          ⟨some 60, .l (.load none), [.t 59], none⟩,
          ⟨some 61, .p (.lenL), [.t 60], none⟩,
          ⟨some 62, .p (.bin .sub), [.c (.int .i64 (.ofNat 1073741824)), .t 61], none⟩,
          ⟨some 63, .p (.bin .gtr), [.t 56, .t 62], none⟩])
        (.cond (.t 63)
         (.seq (.region [
            ⟨some 6, .p (.mv), [.c (.int .i64 (.ofNat 2))], none⟩])
          (.ret))
         (.skip)))
       (.seq (.region [
          ⟨some 64, .p (.mv), [.t 9], none⟩,
          ⟨some 65, .p (.mv), [.t 2], none⟩,
          ⟨some 66, .i (.call 174), [.t 64, .t 65], none⟩])
        (.seq (.region [
           ⟨some 6, .p (.mv), [.c (.int .i64 (.ofNat 0))], none⟩])
         (.ret))))))))), 67, [.t 6]⟩

/- varve/man.Publish$3 -/
def a96 : AFunc := ⟨.seq (.region [
   ⟨some 1, .p (.mv), [.c (.int .i64 (.ofNat 0))], none⟩])
 (.seq (.region [
    ⟨some 2, .l (.load none), [.t 0], none⟩,
    ⟨some 3, .i (.call 97), [.t 2, .c (.str [109, 97, 110, 105, 102, 101, 115, 116, 46, 116, 109, 112])], none⟩,
    ⟨some 1, .p (.mv), [.t 3], none⟩])
  (.ret)), 4, [.t 1]⟩

/- (*varve/vfs.FS).Sync -/
def a97 : AFunc := ⟨.seq (.region [
   ⟨some 4, .p (.mv), [.c (.int .i64 (.ofNat 0))], none⟩])
 (.seq (.seq (.region [
     ⟨some 8, .p (.mv), [.t 0], none⟩,
     ⟨some 9, .i (.call 144), [.t 8], none⟩,
     ⟨some 5, .p (.mv), [.t 9], none⟩])
   (.seq (.region [
      ⟨some 10, .p (.mv), [.t 5], none⟩,
      ⟨some 11, .p (.bin .neq), [.t 10, .c (.int .i64 (.ofNat 0))], none⟩])
    (.cond (.t 11)
     (.seq (.region [
        ⟨some 12, .p (.mv), [.t 5], none⟩,
        ⟨some 4, .p (.mv), [.t 12], none⟩])
      (.ret))
     (.skip))))
  (.seq (.region [
     ⟨some 14, .p (.mv), [.t 0], none⟩,
     ⟨some 15, .p (.mv), [.t 1], none⟩,
     ⟨some 16, .i (.call 145), [.t 14, .t 15], none⟩,
     ⟨some 13, .p (.mv), [.t 16], none⟩,
     ⟨some 17, .p (.ext 0), [.t 13], none⟩,
     ⟨some 18, .p (.ext 1), [.t 13], none⟩,
     ⟨some 6, .p (.mv), [.t 17], none⟩,
     ⟨some 7, .p (.mv), [.t 18], none⟩])
   (.seq (.seq (.region [
       ⟨some 19, .p (.mv), [.t 7], none⟩,
       ⟨some 20, .p (.bin .neq), [.t 19, .c (.int .i64 (.ofNat 0))], none⟩])
     (.cond (.t 20)
      (.seq (.region [
         ⟨some 21, .p (.mv), [.t 7], none⟩,
         ⟨some 4, .p (.mv), [.t 21], none⟩])
       (.ret))
      (.skip)))
    (.seq (.region [
       ⟨some 22, .p (.mv), [.t 6], none⟩,
       ⟨some 23, .i (.call 175), [.t 22], none⟩])
     (.seq (.region [
        ⟨some 4, .p (.mv), [.c (.int .i64 (.ofNat 0))], none⟩])
      (.ret)))))), 24, [.t 4]⟩

/- varve/man.Publish$4 -/
def a98 : AFunc := ⟨.seq (.region [
   ⟨some 1, .p (.mv), [.c (.int .i64 (.ofNat 0))], none⟩])
 (.seq (.region [
    ⟨some 2, .l (.load none), [.t 0], none⟩,
    ⟨some 3, .i (.call 99), [.t 2, .c (.str [109, 97, 110, 105, 102, 101, 115, 116, 46, 116, 109, 112]), .c (.str [109, 97, 110, 105, 102, 101, 115, 116])], none⟩,
    ⟨some 1, .p (.mv), [.t 3], none⟩])
  (.ret)), 4, [.t 1]⟩

/- (*varve/vfs.FS).Rename -/
def a99 : AFunc := ⟨.seq (.region [
   ⟨some 6, .p (.mv), [.c (.int .i64 (.ofNat 0))], none⟩])
 (.seq (.seq (.region [
     ⟨some 10, .p (.mv), [.t 0], none⟩,
     ⟨some 11, .i (.call 144), [.t 10], none⟩,
     ⟨some 7, .p (.mv), [.t 11], none⟩])
   (.seq (.region [
      ⟨some 12, .p (.mv), [.t 7], none⟩,
      ⟨some 13, .p (.bin .neq), [.t 12, .c (.int .i64 (.ofNat 0))], none⟩])
    (.cond (.t 13)
     (.seq (.region [
        ⟨some 14, .p (.mv), [.t 7], none⟩,
        ⟨some 6, .p (.mv), [.t 14], none⟩])
      (.ret))
     (.skip))))
  (.seq (.seq (.region [
      ⟨some 15, .p (.mv), [.t 1], none⟩,
      ⟨some 16, .p (.mv), [.t 2], none⟩,
      ⟨some 17, .p (.bsl 1 2 false [(1, .str [])] [(0, 1), (1, 1)]), [.t 15, .t 16], none⟩,
      ⟨some 18, .i (.call 173), [.t 17], none⟩,
      ⟨some 19, .p (.un .not), [.t 18], none⟩])
    (.cond (.t 19)
     (.seq (.region [
        ⟨some 6, .p (.mv), [.c (.int .i64 (.ofNat 1))], none⟩])
      (.ret))
     (.skip)))
   (.seq (.seq (.region [
       ⟨some 21, .p (.mv), [.t 0], none⟩,
       ⟨some 22, .p (.mv), [.t 1], none⟩,
       ⟨some 23, .i (.call 145), [.t 21, .t 22], none⟩,
       ⟨some 20, .p (.mv), [.t 23], none⟩,
       ⟨some 24, .p (.ext 0), [.t 20], none⟩,
       ⟨some 25, .p (.ext 1), [.t 20], none⟩,
       ⟨some 8, .p (.mv), [.t 24], none⟩,
       ⟨some 9, .p (.mv), [.t 25], none⟩])
     (.seq (.region [
        ⟨some 26, .p (.mv), [.t 9], none⟩,
        ⟨some 27, .p (.bin .neq), [.t 26, .c (.int .i64 (.ofNat 0))], none⟩])
      (.cond (.t 27)
       (.seq (.region [
          ⟨some 28, .p (.mv), [.t 9], none⟩,
          ⟨some 6, .p (.mv), [.t 28], none⟩])
        (.ret))
       (.skip))))
    (.seq (.region [
       ⟨some 29, .p (.mv), [.t 0], none⟩,
       ⟨some 30, .p (.mv), [.t 1], none⟩,
       ⟨some 31, .p (.mv), [.t 2], none⟩,
       ⟨some 32, .p (.build [(1, .int .i64 (.ofNat 0)), (1, .str []), (1, .str []), (1, .nilp)] [(0, 1), (1, 1), (2, 1)]), [.c (.int .i64 (.ofNat 1)), .t 30, .t 31], none⟩,
       ⟨some 33, .i (.call 146), [.t 29, .t 32], none⟩])
     (.seq (.region [
        ⟨some 6, .p (.mv), [.c (.int .i64 (.ofNat 0))], none⟩])
      (.ret)))))), 34, [.t 6]⟩

/- varve/wal.Name -/
def a100 : AFunc := ⟨.seq (.region [
   ⟨some 2, .p (.mv), [.c (.str [])], none⟩])
 (.seq (.region [
    ⟨some 3, .p (.mv), [.t 0], none⟩,
    ⟨some 4, .i (.call 158), [.c (.str [108, 111, 103, 45]), .t 3], none⟩,
    ⟨some 2, .p (.mv), [.t 4], none⟩])
  (.ret)), 5, [.t 2]⟩

/- varve/cal.rest -/
def a102 : AFunc := ⟨.seq (.region [
   ⟨some 4, .p (.mv), [.c (.int .i64 (.ofNat 0))], none⟩])
 (.seq (.region [
    ⟨some 5, .p (.mv), [.t 0], none⟩,
    ⟨some 6, .p (.mv), [.t 1], none⟩,
    ⟨some 7, .p (.bin .rem), [.t 5, .t 6], none⟩,
    ⟨some 8, .p (.mv), [.t 1], none⟩,
    ⟨some 9, .p (.bin .add), [.t 7, .t 8], none⟩,
    ⟨some 10, .p (.mv), [.t 1], none⟩,
    ⟨some 11, .p (.bin .rem), [.t 9, .t 10], none⟩,
    ⟨some 4, .p (.mv), [.t 11], none⟩])
  (.ret)), 12, [.t 4]⟩

/- varve/cal.times -/
def a103 : AFunc := ⟨.seq (.region [
   ⟨some 2, .p (.mv), [.c (.int .i64 (.ofNat 0))], none⟩])
 (.seq (.block 0 (.seq (.region [
      ⟨some 4, .p (.mv), [.t 0], none⟩,
      ⟨some 5, .p (.bin .gtr), [.t 4, .c (.int .i64 (.ofNat 1067519911673006))], none⟩,
      ⟨some 3, .p (.mv), [.t 5], none⟩])
    (.cond (.t 3)
     (.seq (.region [
        ⟨some 2, .p (.mv), [.c (.int .i64 (.ofNat 9223372036854775807))], none⟩])
      (.ret))
     (.seq (.region [
        ⟨some 7, .p (.mv), [.t 0], none⟩,
        ⟨some 8, .p (.bin .lss), [.t 7, .c (.int .i64 (.negSucc 1067519911673005))], none⟩,
        ⟨some 6, .p (.mv), [.t 8], none⟩])
      (.cond (.t 6)
       (.seq (.region [
          ⟨some 2, .p (.mv), [.c (.int .i64 (.negSucc 9223372036854775807))], none⟩])
        (.ret))
       (.skip))))))
  (.seq (.region [
     ⟨some 9, .p (.mv), [.t 0], none⟩,
     ⟨some 10, .p (.bin .mul), [.t 9, .c (.int .i64 (.ofNat 8640))], none⟩,
     ⟨some 2, .p (.mv), [.t 10], none⟩])
   (.ret))), 11, [.t 2]⟩

/- varve/cal.Res -/
def a104 : AFunc := ⟨.seq (.region [
   ⟨some 2, .p (.mv), [.c (.int .i64 (.ofNat 0))], none⟩])
 (.seq (.region [
    ⟨some 4, .p (.build [(1, .int .i64 (.ofNat 0)), (1, .int .i64 (.ofNat 0)), (1, .int .i64 (.ofNat 0)), (1, .int .i64 (.ofNat 0))] [(0, 1), (1, 1), (2, 1), (3, 1)]), [.c (.int .i64 (.ofNat 1)), .c (.int .i64 (.ofNat 6)), .c (.int .i64 (.ofNat 360)), .c (.int .i64 (.ofNat 8640))], none⟩,
    ⟨some 3, .i (.alloc [(1, .int .i64 (.ofNat 0)), (1, .int .i64 (.ofNat 0)), (1, .int .i64 (.ofNat 0)), (1, .int .i64 (.ofNat 0))]), [], none⟩,
    ⟨none, .i (.store 4), [.t 3, .t 4], none⟩])
  (.seq (.seq (.region [
      ⟨some 5, .p (.mv), [.t 0], none⟩,
      ⟨some 6, .p (.bin .lss), [.t 5, .c (.int .i64 (.ofNat 0))], none⟩,
      ⟨some 7, .p (.mv), [.t 6], none⟩,
      ⟨some 8, .p (.mv), [.t 0], some (7, false)⟩,
      ⟨some 9, .p (.bin .geq), [.t 8, .c (.int .i64 (.ofNat 4))], some (7, false)⟩,
      ⟨some 10, .p (.pick), [.t 7, .c (.bool true), .t 9], none⟩])
    (.cond (.t 10)
     (.seq (.region [
        ⟨some 2, .p (.mv), [.c (.int .i64 (.ofNat 0))], none⟩])
      (.ret))
     (.skip)))
   (.seq (.region [
      ⟨some 11, .p (.mv), [.t 0], none⟩,
      ⟨some 12, .p (.iaddrA 4 1), [.t 3, .t 11], none⟩,
      ⟨some 13, .l (.load none), [.t 12], none⟩,
      ⟨some 2, .p (.mv), [.t 13], none⟩])
    (.ret)))), 14, [.t 2]⟩

/- varve/pair.Check -/
def a105 : AFunc := ⟨.seq (.region [
   ⟨some 1, .i (.box 6), [.t 0], none⟩,
   ⟨some 2, .p (.mv), [.c (.bool false)], none⟩])
 (.seq (.region [
    ⟨some 3, .p (.faddr 0), [.t 1], none⟩,
    ⟨some 4, .l (.load none), [.t 3], none⟩,
    ⟨some 5, .i (.call 177), [.t 4], none⟩,
    ⟨some 6, .p (.mv), [.t 5], none⟩,
    ⟨some 7, .p (.faddr 1), [.t 1], some (6, true)⟩,
    ⟨some 8, .l (.load none), [.t 7], some (6, true)⟩,
    ⟨some 9, .i (.call 115), [.t 8], some (6, true)⟩,
    ⟨some 10, .p (.pick), [.t 6, .t 9, .c (.bool false)], none⟩,
    ⟨some 11, .p (.mv), [.t 10], none⟩,
    ⟨some 12, .p (.faddr 2), [.t 1], some (11, true)⟩,
    ⟨some 13, .l (.load (some 4)), [.t 12], some (11, true)⟩,
    ⟨some 14, .i (.call 116), [.t 13], some (11, true)⟩,
    ⟨some 15, .p (.pick), [.t 11, .t 14, .c (.bool false)], none⟩,
    ⟨some 2, .p (.mv), [.t 15], none⟩])
  (.ret)), 16, [.t 2]⟩

/- varve/match.eval -/
def a106 : AFunc := ⟨.seq (.region [
   ⟨some 2, .i (.box 5), [.t 0], none⟩,
   ⟨some 4, .p (.mv), [.c (.bool false)], none⟩])
 (.seq (.region [
    ⟨some 11, .p (.mv), [.t 1], none⟩,
    ⟨some 12, .p (.faddr 1), [.t 2], none⟩,
    ⟨some 13, .l (.load none), [.t 12], none⟩,
    ⟨some 14, .i (.call 178), [.t 11, .t 13], none⟩,
    ⟨some 5, .p (.mv), [.t 14], none⟩])
  (.seq (.seq (.region [
      ⟨some 15, .p (.faddr 0), [.t 2], none⟩,
      ⟨some 16, .l (.load none), [.t 15], none⟩])
    (.block 0 (.seq (.region [
        ⟨some 18, .p (.bin .eql), [.t 16, .c (.int .i64 (.ofNat 0))], none⟩,
        ⟨some 17, .p (.mv), [.t 18], none⟩])
      (.cond (.t 17)
       (.seq (.region [
          ⟨some 4, .p (.mv), [.c (.bool true)], none⟩])
        (.ret))
       (.seq (.region [
          ⟨some 20, .p (.bin .eql), [.t 16, .c (.int .i64 (.ofNat 1))], none⟩,
          ⟨some 19, .p (.mv), [.t 20], none⟩])
        (.cond (.t 19)
         (.seq (.region [
            ⟨some 21, .p (.mv), [.t 5], none⟩,
            ⟨some 22, .p (.faddr 2), [.t 2], none⟩,
            ⟨some 23, .l (.load none), [.t 22], none⟩,
            ⟨some 24, .p (.bin .eql), [.t 21, .t 23], none⟩,
            ⟨some 4, .p (.mv), [.t 24], none⟩])
          (.ret))
         (.seq (.region [
            ⟨some 26, .p (.bin .eql), [.t 16, .c (.int .i64 (.ofNat 2))], none⟩,
            ⟨some 25, .p (.mv), [.t 26], none⟩])
          (.cond (.t 25)
           (.seq (.region [
              ⟨some 27, .p (.mv), [.t 5], none⟩,
              ⟨some 28, .p (.faddr 2), [.t 2], none⟩,
              ⟨some 29, .l (.load none), [.t 28], none⟩,
              ⟨some 30, .p (.bin .neq), [.t 27, .t 29], none⟩,
              ⟨some 4, .p (.mv), [.t 30], none⟩])
            (.ret))
           (.seq (.region [
              ⟨some 32, .p (.bin .eql), [.t 16, .c (.int .i64 (.ofNat 3))], none⟩,
              ⟨some 31, .p (.mv), [.t 32], none⟩])
            (.cond (.t 31)
             (.seq (.region [
                ⟨some 33, .p (.mv), [.t 5], none⟩,
                ⟨some 34, .p (.faddr 2), [.t 2], none⟩,
                ⟨some 35, .l (.load none), [.t 34], none⟩,
                ⟨some 36, .i (.call 179), [.t 33, .t 35], none⟩,
                ⟨some 4, .p (.mv), [.t 36], none⟩])
              (.ret))
             (.seq (.region [
                ⟨some 38, .p (.bin .eql), [.t 16, .c (.int .i64 (.ofNat 4))], none⟩,
                ⟨some 37, .p (.mv), [.t 38], none⟩])
              (.cond (.t 37)
               (.seq (.seq (.region [
                   ⟨some 39, .p (.faddr 3), [.t 2], none⟩,
                   ⟨some 40, .l (.load none), [.t 39], none⟩,
                   ⟨some 41, .p (.lenL), [.t 40], none⟩,
                   ⟨some 42, .p (.mv), [.c (.int .i64 (.ofNat 0))], none⟩])
                 (.block 1 (.loop (.seq (.region [
                      ⟨some 43, .p (.bin .lss), [.t 42, .t 41], none⟩])
                    (.seq (.cond (.t 43)
                      (.skip)
                      (.exit 1))
                     (.seq (.block 2 (.seq (.region [
                          ⟨some 44, .p (.iaddr 1), [.t 40, .t 42], none⟩,
                          ⟨some 45, .l (.load none), [.t 44], none⟩,
                          ⟨some 7, .p (.mv), [.t 45], none⟩])
                        (.seq (.region [
                           ⟨some 46, .p (.mv), [.t 7], none⟩,
                           ⟨some 47, .p (.mv), [.t 5], none⟩,
                           ⟨some 48, .p (.bin .eql), [.t 46, .t 47], none⟩])
                         (.cond (.t 48)
                          (.seq (.region [
                             ⟨some 4, .p (.mv), [.c (.bool true)], none⟩])
                           (.ret))
                          (.skip)))))
                      (.region [
                        ⟨some 49, .p (.bin .add), [.t 42, .c (.int .i64 (.ofNat 1))], none⟩,
                        ⟨some 42, .p (.mv), [.t 49], none⟩])))))))
                (.seq (.region [
                   ⟨some 4, .p (.mv), [.c (.bool false)], none⟩])
                 (.ret)))
               (.seq (.region [
                  ⟨some 51, .p (.bin .eql), [.t 16, .c (.int .i64 (.ofNat 7))], none⟩,
                  ⟨some 50, .p (.mv), [.t 51], none⟩])
                (.cond (.t 50)
                 (.seq (.region [
                    ⟨some 52, .p (.faddr 4), [.t 2], none⟩,
                    ⟨some 53, .l (.load none), [.t 52], none⟩,
                    ⟨some 54, .p (.iaddr 5), [.t 53, .c (.int .i64 (.ofNat 0))], none⟩,
                    ⟨some 55, .l (.load (some 5)), [.t 54], none⟩,
                    ⟨some 56, .p (.mv), [.t 1], none⟩,
                    ⟨some 57, .i (.call 106), [.t 55, .t 56], none⟩,
                    ⟨some 58, .p (.un .not), [.t 57], none⟩,
                    ⟨some 4, .p (.mv), [.t 58], none⟩])
                  (.ret))
                 (.skip)))))))))))))))
   (.seq (.region [
      ⟨some 59, .p (.faddr 0), [.t 2], none⟩,
      ⟨some 60, .l (.load none), [.t 59], none⟩,
      ⟨some 61, .p (.bin .eql), [.t 60, .c (.int .i64 (.ofNat 6))], none⟩,
      ⟨some 8, .p (.mv), [.t 61], none⟩])
    (.seq (.seq (.region [
        ⟨some 62, .p (.faddr 4), [.t 2], none⟩,
        ⟨some 63, .l (.load none), [.t 62], none⟩,
        ⟨some 64, .p (.lenL), [.t 63], none⟩,
        ⟨some 65, .p (.mv), [.c (.int .i64 (.ofNat 0))], none⟩])
      (.block 3 (.loop (.seq (.region [
           ⟨some 66, .p (.bin .lss), [.t 65, .t 64], none⟩])
         (.seq (.cond (.t 66)
           (.skip)
           (.exit 3))
          (.seq (.block 4 (.seq (.region [
               ⟨some 67, .p (.iaddr 5), [.t 63, .t 65], none⟩,
               ⟨some 68, .l (.load (some 5)), [.t 67], none⟩,
               ⟨some 10, .i (.alloc [(1, .int .i64 (.ofNat 0)), (1, .str []), (1, .str []), (1, .list .full 1 []), (1, .list .full 5 [])]), [], none⟩,
               ⟨none, .i (.store 5), [.t 10, .t 68], none⟩])
             (.seq (.region [
                ⟨some 69, .l (.load (some 5)), [.t 10], none⟩,
                ⟨some 70, .p (.mv), [.t 1], none⟩,
                ⟨some 71, .i (.call 106), [.t 69, .t 70], none⟩,
                ⟨some 72, .p (.mv), [.t 8], none⟩,
                ⟨some 73, .p (.beq false), [.t 71, .t 72], none⟩])
              (.cond (.t 73)
               (.seq (.region [
                  ⟨some 74, .p (.mv), [.t 8], none⟩,
                  ⟨some 4, .p (.mv), [.t 74], none⟩])
                (.ret))
               (.skip)))))
           (.region [
             ⟨some 75, .p (.bin .add), [.t 65, .c (.int .i64 (.ofNat 1))], none⟩,
             ⟨some 65, .p (.mv), [.t 75], none⟩])))))))
     (.seq (.region [
        ⟨some 76, .p (.mv), [.t 8], none⟩,
        ⟨some 77, .p (.un .not), [.t 76], none⟩,
        ⟨some 4, .p (.mv), [.t 77], none⟩])
      (.ret)))))), 78, [.t 4]⟩

/- slices.SortFunc[[]varve/api.Row,varve/api.Row] -/
def a107 : AFunc := ⟨.seq (.region [
   ⟨some 5, .p (.mv), [.t 0], none⟩,
   ⟨some 6, .p (.lenL), [.t 5], none⟩,
   ⟨some 4, .p (.mv), [.t 6], none⟩])
 (.region [
   ⟨some 7, .p (.mv), [.t 0], none⟩,
   ⟨some 8, .p (.mv), [.t 4], none⟩,
   ⟨some 9, .p (.mv), [.t 4], none⟩,
   ⟨some 10, .p (.convI .u64), [.t 9], none⟩,
   ⟨some 11, .i (.call 181), [.t 10], none⟩,
   ⟨some 12, .p (.mv), [.t 1], none⟩,
   ⟨some 13, .i (.call 180), [.t 7, .c (.int .i64 (.ofNat 0)), .t 8, .t 11, .t 12], none⟩]), 14, []⟩

/- varve/rows.Order -/
def a108 : AFunc := ⟨.seq (.region [
   ⟨some 2, .i (.box 8), [.t 0], none⟩,
   ⟨some 3, .i (.box 8), [.t 1], none⟩,
   ⟨some 4, .p (.mv), [.c (.int .i64 (.ofNat 0))], none⟩])
 (.seq (.seq (.region [
     ⟨some 6, .p (.faddr 0), [.t 2], none⟩,
     ⟨some 7, .l (.load none), [.t 6], none⟩,
     ⟨some 8, .p (.faddr 0), [.t 3], none⟩,
     ⟨some 9, .l (.load none), [.t 8], none⟩,
     ⟨some 10, .i (.call 182), [.t 7, .t 9], none⟩,
     ⟨some 5, .p (.mv), [.t 10], none⟩])
   (.seq (.region [
      ⟨some 11, .p (.mv), [.t 5], none⟩,
      ⟨some 12, .p (.bin .neq), [.t 11, .c (.int .i64 (.ofNat 0))], none⟩])
    (.cond (.t 12)
     (.seq (.region [
        ⟨some 13, .p (.mv), [.t 5], none⟩,
        ⟨some 4, .p (.mv), [.t 13], none⟩])
      (.ret))
     (.skip))))
  (.seq (.block 0 (.seq (.region [
       ⟨some 15, .p (.faddr 1), [.t 2], none⟩,
       ⟨some 16, .l (.load none), [.t 15], none⟩,
       ⟨some 17, .p (.faddr 1), [.t 3], none⟩,
       ⟨some 18, .l (.load none), [.t 17], none⟩,
       ⟨some 19, .p (.bin .lss), [.t 16, .t 18], none⟩,
       ⟨some 14, .p (.mv), [.t 19], none⟩])
     (.cond (.t 14)
      (.seq (.region [
         ⟨some 4, .p (.mv), [.c (.int .i64 (.negSucc 0))], none⟩])
       (.ret))
      (.seq (.region [
         ⟨some 21, .p (.faddr 1), [.t 2], none⟩,
         ⟨some 22, .l (.load none), [.t 21], none⟩,
         ⟨some 23, .p (.faddr 1), [.t 3], none⟩,
         ⟨some 24, .l (.load none), [.t 23], none⟩,
         ⟨some 25, .p (.bin .gtr), [.t 22, .t 24], none⟩,
         ⟨some 20, .p (.mv), [.t 25], none⟩])
       (.cond (.t 20)
        (.seq (.region [
           ⟨some 4, .p (.mv), [.c (.int .i64 (.ofNat 1))], none⟩])
         (.ret))
        (.skip))))))
   (.seq (.region [
      ⟨some 4, .p (.mv), [.c (.int .i64 (.ofNat 0))], none⟩])
    (.ret)))), 26, [.t 4]⟩

/- (*varve/hist.Hist).Merge -/
def a111 : AFunc := ⟨.seq (.region [
   ⟨some 4, .p (.mv), [.c (.int .i64 (.ofNat 0))], none⟩])
 (.seq (.seq (.region [
     ⟨some 7, .p (.mv), [.t 0], none⟩,
     ⟨some 8, .p (.isnil .ptr false), [.t 7], none⟩,
     ⟨some 9, .p (.mv), [.t 8], none⟩,
     ⟨some 10, .p (.mv), [.t 1], some (9, false)⟩,
     ⟨some 11, .i (.call 177), [.t 10], some (9, false)⟩,
     ⟨some 12, .p (.un .not), [.t 11], some (9, false)⟩,
     ⟨some 13, .p (.pick), [.t 9, .c (.bool true), .t 12], none⟩])
   (.cond (.t 13)
    (.seq (.region [
       ⟨some 4, .p (.mv), [.c (.int .i64 (.ofNat 5))], none⟩])
     (.ret))
    (.skip)))
  (.seq (.seq (.region [
      ⟨some 14, .p (.mv), [.t 1], none⟩,
      ⟨some 15, .p (.lenL), [.t 14], none⟩,
      ⟨some 16, .p (.mv), [.c (.int .i64 (.ofNat 0))], none⟩])
    (.block 0 (.loop (.seq (.region [
         ⟨some 17, .p (.bin .lss), [.t 16, .t 15], none⟩])
       (.seq (.cond (.t 17)
         (.skip)
         (.exit 0))
        (.seq (.block 1 (.seq (.region [
             ⟨some 18, .p (.iaddr 2), [.t 14, .t 16], none⟩,
             ⟨some 19, .l (.load (some 2)), [.t 18], none⟩,
             ⟨some 6, .i (.alloc [(1, .int .i64 (.ofNat 0)), (1, .int .u64 (.ofNat 0))]), [], none⟩,
             ⟨none, .i (.store 2), [.t 6, .t 19], none⟩])
           (.draw (.q ⟨some 20, .p (.mv), [.t 0], none⟩ (.q ⟨some 21, .p (.faddr 0), [.t 6], none⟩ (.q ⟨some 22, .l (.load none), [.t 21], none⟩ (.q ⟨some 23, .p (.mv), [.t 0], none⟩ (.q ⟨some 24, .p (.faddr 0), [.t 6], none⟩ (.q ⟨some 25, .l (.load none), [.t 24], none⟩ (.q ⟨some 26, .p (.nilchk), [.t 23], none⟩ (.q ⟨some 27, .p (.faddr 0), [.t 26], none⟩ (.q ⟨some 28, .p (.iaddrA 7424 1), [.t 27, .t 25], none⟩ (.q ⟨some 29, .l (.load none), [.t 28], none⟩ (.q ⟨some 30, .p (.faddr 1), [.t 6], none⟩ (.q ⟨some 31, .l (.load none), [.t 30], none⟩ (.q ⟨some 33, .p (.nilchk), [.t 20], none⟩ (.q ⟨some 34, .p (.faddr 0), [.t 33], none⟩ (.e ⟨some 32, .i (.call 125), [.t 29, .t 31], none⟩ [⟨some 22, .l (.load none), [.t 21], none⟩] (.q ⟨some 35, .p (.iaddrA 7424 1), [.t 34, .t 22], none⟩ (.e ⟨none, .i (.store 1), [.t 35, .t 32], none⟩ [] (.done)))))))))))))))))))))
         (.region [
           ⟨some 36, .p (.bin .add), [.t 16, .c (.int .i64 (.ofNat 1))], none⟩,
           ⟨some 16, .p (.mv), [.t 36], none⟩])))))))
   (.seq (.region [
      ⟨some 4, .p (.mv), [.c (.int .i64 (.ofNat 0))], none⟩])
    (.ret)))), 37, [.t 4]⟩

/- (*varve/kmv.Kmv).Merge -/
def a112 : AFunc := ⟨.seq (.region [
   ⟨some 4, .p (.mv), [.c (.int .i64 (.ofNat 0))], none⟩])
 (.seq (.seq (.region [
     ⟨some 7, .p (.mv), [.t 0], none⟩,
     ⟨some 8, .p (.isnil .ptr false), [.t 7], none⟩,
     ⟨some 9, .p (.mv), [.t 8], none⟩,
     ⟨some 10, .p (.mv), [.t 1], some (9, false)⟩,
     ⟨some 11, .i (.call 115), [.t 10], some (9, false)⟩,
     ⟨some 12, .p (.un .not), [.t 11], some (9, false)⟩,
     ⟨some 13, .p (.pick), [.t 9, .c (.bool true), .t 12], none⟩])
   (.cond (.t 13)
    (.seq (.region [
       ⟨some 4, .p (.mv), [.c (.int .i64 (.ofNat 5))], none⟩])
     (.ret))
    (.skip)))
  (.seq (.seq (.region [
      ⟨some 14, .p (.mv), [.t 1], none⟩,
      ⟨some 15, .p (.lenL), [.t 14], none⟩,
      ⟨some 16, .p (.mv), [.c (.int .i64 (.ofNat 0))], none⟩])
    (.block 0 (.loop (.seq (.region [
         ⟨some 17, .p (.bin .lss), [.t 16, .t 15], none⟩])
       (.seq (.cond (.t 17)
         (.skip)
         (.exit 0))
        (.seq (.block 1 (.seq (.region [
             ⟨some 18, .p (.iaddr 1), [.t 14, .t 16], none⟩,
             ⟨some 19, .l (.load none), [.t 18], none⟩,
             ⟨some 6, .p (.mv), [.t 19], none⟩])
           (.region [
             ⟨some 20, .p (.mv), [.t 0], none⟩,
             ⟨some 21, .p (.mv), [.t 6], none⟩,
             ⟨some 22, .i (.call 126), [.t 20, .t 21], none⟩])))
         (.region [
           ⟨some 23, .p (.bin .add), [.t 16, .c (.int .i64 (.ofNat 1))], none⟩,
           ⟨some 16, .p (.mv), [.t 23], none⟩])))))))
   (.seq (.region [
      ⟨some 4, .p (.mv), [.c (.int .i64 (.ofNat 0))], none⟩])
    (.ret)))), 24, [.t 4]⟩

/- varve/gauge.Merge -/
def a113 : AFunc := ⟨.seq (.region [
   ⟨some 2, .i (.box 4), [.t 0], none⟩,
   ⟨some 3, .i (.box 4), [.t 1], none⟩,
   ⟨some 4, .i (.alloc [(1, .int .u64 (.ofNat 0)), (1, .int .u64 (.ofNat 0)), (1, .int .u64 (.ofNat 0)), (1, .int .u64 (.ofNat 0))]), [], none⟩])
 (.seq (.region [
    ⟨some 6, .l (.load (some 4)), [.t 2], none⟩,
    ⟨some 5, .i (.alloc [(1, .int .u64 (.ofNat 0)), (1, .int .u64 (.ofNat 0)), (1, .int .u64 (.ofNat 0)), (1, .int .u64 (.ofNat 0))]), [], none⟩,
    ⟨none, .i (.store 4), [.t 5, .t 6], none⟩])
  (.seq (.seq (.region [
      ⟨some 7, .p (.faddr 0), [.t 2], none⟩,
      ⟨some 8, .l (.load none), [.t 7], none⟩,
      ⟨some 9, .p (.bin .eql), [.t 8, .c (.int .u64 (.ofNat 0))], none⟩])
    (.cond (.t 9)
     (.region [
       ⟨some 10, .l (.load (some 4)), [.t 3], none⟩,
       ⟨none, .i (.store 4), [.t 5, .t 10], none⟩])
     (.skip)))
   (.seq (.draw (.q ⟨some 11, .p (.faddr 1), [.t 2], none⟩ (.q ⟨some 12, .l (.load none), [.t 11], none⟩ (.q ⟨some 13, .p (.faddr 1), [.t 3], none⟩ (.q ⟨some 14, .l (.load none), [.t 13], none⟩ (.q ⟨some 16, .p (.faddr 0), [.t 2], none⟩ (.q ⟨some 17, .l (.load none), [.t 16], none⟩ (.q ⟨some 18, .p (.faddr 0), [.t 3], none⟩ (.q ⟨some 19, .l (.load none), [.t 18], none⟩ (.e ⟨some 15, .i (.call 125), [.t 12, .t 14], none⟩ [⟨some 17, .l (.load none), [.t 16], none⟩, ⟨some 19, .l (.load none), [.t 18], none⟩] (.q ⟨some 21, .p (.faddr 1), [.t 5], none⟩ (.e ⟨some 20, .i (.call 125), [.t 17, .t 19], none⟩ [] (.e ⟨none, .i (.store 1), [.t 21, .t 15], none⟩ [] (.q ⟨some 22, .p (.faddr 0), [.t 5], none⟩ (.e ⟨none, .i (.store 1), [.t 22, .t 20], none⟩ [] (.done))))))))))))))))
    (.seq (.seq (.region [
        ⟨some 23, .p (.faddr 0), [.t 2], none⟩,
        ⟨some 24, .l (.load none), [.t 23], none⟩,
        ⟨some 25, .p (.bin .eql), [.t 24, .c (.int .u64 (.ofNat 0))], none⟩,
        ⟨some 26, .p (.mv), [.t 25], none⟩,
        ⟨some 27, .p (.faddr 0), [.t 3], some (26, false)⟩,
        ⟨some 28, .l (.load none), [.t 27], some (26, false)⟩,
        ⟨some 29, .p (.bin .eql), [.t 28, .c (.int .u64 (.ofNat 0))], some (26, false)⟩,
        ⟨some 30, .p (.pick), [.t 26, .c (.bool true), .t 29], none⟩])
      (.cond (.t 30)
       (.seq (.region [
          ⟨some 31, .l (.load (some 4)), [.t 5], none⟩,
          ⟨none, .i (.store 4), [.t 4, .t 31], none⟩])
        (.ret))
       (.skip)))
     (.seq (.seq (.region [
         ⟨some 32, .p (.faddr 2), [.t 3], none⟩,
         ⟨some 33, .l (.load none), [.t 32], none⟩,
         ⟨some 34, .p (.faddr 2), [.t 5], none⟩,
         ⟨some 35, .l (.load none), [.t 34], none⟩,
         ⟨some 36, .i (.call 185), [.t 33, .t 35], none⟩])
       (.cond (.t 36)
        (.region [
          ⟨some 37, .p (.faddr 2), [.t 3], none⟩,
          ⟨some 38, .l (.load none), [.t 37], none⟩,
          ⟨some 39, .p (.faddr 2), [.t 5], none⟩,
          ⟨none, .i (.store 1), [.t 39, .t 38], none⟩])
        (.skip)))
      (.seq (.seq (.region [
          ⟨some 40, .p (.faddr 3), [.t 5], none⟩,
          ⟨some 41, .l (.load none), [.t 40], none⟩,
          ⟨some 42, .p (.faddr 3), [.t 3], none⟩,
          ⟨some 43, .l (.load none), [.t 42], none⟩,
          ⟨some 44, .i (.call 185), [.t 41, .t 43], none⟩])
        (.cond (.t 44)
         (.region [
           ⟨some 45, .p (.faddr 3), [.t 3], none⟩,
           ⟨some 46, .l (.load none), [.t 45], none⟩,
           ⟨some 47, .p (.faddr 3), [.t 5], none⟩,
           ⟨none, .i (.store 1), [.t 47, .t 46], none⟩])
         (.skip)))
       (.seq (.region [
          ⟨some 48, .l (.load (some 4)), [.t 5], none⟩,
          ⟨none, .i (.store 4), [.t 4, .t 48], none⟩])
        (.ret)))))))), 49, [.cell 4 (some 4)]⟩

/- varve/hist.From -/
def a114 : AFunc := ⟨.seq (.region [
   ⟨some 2, .p (.mv), [.c (.nilp)], none⟩,
   ⟨some 3, .p (.mv), [.c (.int .i64 (.ofNat 0))], none⟩])
 (.seq (.region [
    ⟨some 6, .i (.call 56), [], none⟩,
    ⟨some 4, .p (.mv), [.t 6], none⟩])
  (.seq (.seq (.region [
      ⟨some 7, .p (.mv), [.t 4], none⟩,
      ⟨some 8, .p (.mv), [.t 0], none⟩,
      ⟨some 9, .i (.call 111), [.t 7, .t 8], none⟩,
      ⟨some 5, .p (.mv), [.t 9], none⟩])
    (.seq (.region [
       ⟨some 10, .p (.mv), [.t 5], none⟩,
       ⟨some 11, .p (.bin .neq), [.t 10, .c (.int .i64 (.ofNat 0))], none⟩])
     (.cond (.t 11)
      (.seq (.region [
         ⟨some 12, .p (.mv), [.t 5], none⟩,
         ⟨some 2, .p (.mv), [.c (.nilp)], none⟩,
         ⟨some 3, .p (.mv), [.t 12], none⟩])
       (.ret))
      (.skip))))
   (.seq (.region [
      ⟨some 13, .p (.mv), [.t 4], none⟩,
      ⟨some 2, .p (.mv), [.t 13], none⟩,
      ⟨some 3, .p (.mv), [.c (.int .i64 (.ofNat 0))], none⟩])
    (.ret)))), 14, [.t 2, .t 3]⟩

/- varve/kmv.Check -/
def a115 : AFunc := ⟨.seq (.region [
   ⟨some 2, .p (.mv), [.c (.bool false)], none⟩])
 (.seq (.seq (.region [
     ⟨some 3, .p (.mv), [.c (.int .i64 (.ofNat 1))], none⟩])
   (.block 0 (.loop (.seq (.seq (.region [
         ⟨some 4, .p (.mv), [.t 3], none⟩,
         ⟨some 5, .p (.mv), [.t 0], none⟩,
         ⟨some 6, .p (.lenL), [.t 5], none⟩,
         ⟨some 7, .p (.bin .lss), [.t 4, .t 6], none⟩,
         ⟨some 8, .p (.mv), [.t 7], none⟩,
         ⟨some 9, .p (.mv), [.t 3], some (8, true)⟩,
         ⟨some 10, .p (.bin .leq), [.t 9, .c (.int .i64 (.ofNat 1024))], some (8, true)⟩,
         ⟨some 11, .p (.pick), [.t 8, .t 10, .c (.bool false)], none⟩])
       (.cond (.t 11)
        (.skip)
        (.exit 0)))
      (.seq (.block 1 (.seq (.draw (.q ⟨some 14, .p (.mv), [.t 0], none⟩ (.q ⟨some 15, .p (.mv), [.t 3], none⟩ (.q ⟨some 16, .p (.iaddr 1), [.t 14, .t 15], none⟩ (.q ⟨some 17, .l (.load none), [.t 16], none⟩ (.q ⟨some 18, .p (.mv), [.t 0], none⟩ (.q ⟨some 19, .p (.mv), [.t 3], none⟩ (.q ⟨some 20, .p (.bin .sub), [.t 19, .c (.int .i64 (.ofNat 1))], none⟩ (.q ⟨some 21, .p (.iaddr 1), [.t 18, .t 20], none⟩ (.q ⟨some 22, .l (.load none), [.t 21], none⟩ (.q ⟨some 23, .p (.bin .leq), [.t 17, .t 22], none⟩ (.done))))))))))))
         (.cond (.t 23)
          (.seq (.region [
             ⟨some 2, .p (.mv), [.c (.bool false)], none⟩])
           (.ret))
          (.skip))))
       (.region [
         ⟨some 12, .p (.mv), [.t 3], none⟩,
         ⟨some 13, .p (.bin .add), [.t 12, .c (.int .i64 (.ofNat 1))], none⟩,
         ⟨some 3, .p (.mv), [.t 13], none⟩]))))))
  (.seq (.region [
     ⟨some 24, .p (.mv), [.t 0], none⟩,
     ⟨some 25, .p (.lenL), [.t 24], none⟩,
     ⟨some 26, .p (.bin .leq), [.t 25, .c (.int .i64 (.ofNat 1024))], none⟩,
     ⟨some 2, .p (.mv), [.t 26], none⟩])
   (.ret))), 27, [.t 2]⟩

/- varve/gauge.Check -/
def a116 : AFunc := ⟨.seq (.region [
   ⟨some 1, .i (.box 4), [.t 0], none⟩,
   ⟨some 2, .p (.mv), [.c (.bool false)], none⟩])
 (.seq (.seq (.region [
     ⟨some 3, .p (.faddr 0), [.t 1], none⟩,
     ⟨some 4, .l (.load none), [.t 3], none⟩,
     ⟨some 5, .p (.bin .eql), [.t 4, .c (.int .u64 (.ofNat 0))], none⟩])
   (.cond (.t 5)
    (.seq (.region [
       ⟨some 6, .l (.load (some 4)), [.t 1], none⟩,
       ⟨some 7, .p (.faddr 1), [.t 1], none⟩,
       ⟨some 8, .l (.load none), [.t 7], none⟩,
       ⟨some 9, .p (.build [(1, .int .u64 (.ofNat 0)), (1, .int .u64 (.ofNat 0)), (1, .int .u64 (.ofNat 0)), (1, .int .u64 (.ofNat 0))] [(1, 1)]), [.t 8], none⟩,
       ⟨some 10, .p (.eqs [.i, .i, .i, .i] false), [.t 6, .t 9], none⟩,
       ⟨some 2, .p (.mv), [.t 10], none⟩])
     (.ret))
    (.skip)))
  (.seq (.region [
     ⟨some 11, .p (.faddr 2), [.t 1], none⟩,
     ⟨some 12, .l (.load none), [.t 11], none⟩,
     ⟨some 13, .i (.call 128), [.t 12], none⟩,
     ⟨some 14, .p (.un .not), [.t 13], none⟩,
     ⟨some 15, .p (.mv), [.t 14], none⟩,
     ⟨some 16, .p (.faddr 3), [.t 1], some (15, true)⟩,
     ⟨some 17, .l (.load none), [.t 16], some (15, true)⟩,
     ⟨some 18, .i (.call 128), [.t 17], some (15, true)⟩,
     ⟨some 19, .p (.un .not), [.t 18], some (15, true)⟩,
     ⟨some 20, .p (.pick), [.t 15, .t 19, .c (.bool false)], none⟩,
     ⟨some 21, .p (.mv), [.t 20], none⟩,
     ⟨some 22, .p (.faddr 3), [.t 1], some (21, true)⟩,
     ⟨some 23, .l (.load none), [.t 22], some (21, true)⟩,
     ⟨some 24, .p (.faddr 2), [.t 1], some (21, true)⟩,
     ⟨some 25, .l (.load none), [.t 24], some (21, true)⟩,
     ⟨some 26, .i (.call 185), [.t 23, .t 25], some (21, true)⟩,
     ⟨some 27, .p (.un .not), [.t 26], some (21, true)⟩,
     ⟨some 28, .p (.pick), [.t 21, .t 27, .c (.bool false)], none⟩,
     ⟨some 2, .p (.mv), [.t 28], none⟩])
   (.ret))), 29, [.t 2]⟩

/- (*varve/hist.Hist).Count -/
def a117 : AFunc := ⟨.seq (.region [
   ⟨some 2, .p (.mv), [.c (.int .u64 (.ofNat 0))], none⟩,
   ⟨some 3, .p (.mv), [.c (.int .i64 (.ofNat 0))], none⟩])
 (.seq (.region [
    ⟨some 5, .p (.mv), [.t 0], none⟩,
    ⟨some 6, .i (.call 186), [.t 5, .c (.int .i64 (.ofNat 7423))], none⟩,
    ⟨some 4, .p (.mv), [.t 6], none⟩])
  (.seq (.seq (.region [
      ⟨some 7, .p (.mv), [.t 4], none⟩,
      ⟨some 8, .p (.bin .eql), [.t 7, .c (.int .u64 (.ofNat 18446744073709551615))], none⟩])
    (.cond (.t 8)
     (.seq (.region [
        ⟨some 9, .p (.mv), [.t 4], none⟩,
        ⟨some 2, .p (.mv), [.t 9], none⟩,
        ⟨some 3, .p (.mv), [.c (.int .i64 (.ofNat 11))], none⟩])
      (.ret))
     (.skip)))
   (.seq (.region [
      ⟨some 10, .p (.mv), [.t 4], none⟩,
      ⟨some 2, .p (.mv), [.t 10], none⟩,
      ⟨some 3, .p (.mv), [.c (.int .i64 (.ofNat 0))], none⟩])
    (.ret)))), 11, [.t 2, .t 3]⟩

/- varve/label.Text -/
def a120 : AFunc := ⟨.seq (.region [
   ⟨some 2, .p (.mv), [.c (.str [])], none⟩])
 (.seq (.region [
    ⟨some 3, .p (.mv), [.c (.list .full 1 [])], none⟩])
  (.seq (.seq (.region [
      ⟨some 6, .p (.mv), [.t 0], none⟩,
      ⟨some 7, .p (.lenL), [.t 6], none⟩,
      ⟨some 8, .p (.mv), [.c (.int .i64 (.ofNat 0))], none⟩])
    (.block 0 (.loop (.seq (.region [
         ⟨some 9, .p (.bin .lss), [.t 8, .t 7], none⟩])
       (.seq (.cond (.t 9)
         (.skip)
         (.exit 0))
        (.seq (.block 1 (.seq (.region [
             ⟨some 10, .p (.iaddr 2), [.t 6, .t 8], none⟩,
             ⟨some 11, .l (.load (some 2)), [.t 10], none⟩,
             ⟨some 5, .i (.alloc [(1, .str []), (1, .str [])]), [], none⟩,
             ⟨none, .i (.store 2), [.t 5, .t 11], none⟩])
           (.draw (.q ⟨some 12, .p (.mv), [.t 3], none⟩ (.q ⟨some 13, .p (.faddr 0), [.t 5], none⟩ (.q ⟨some 14, .l (.load none), [.t 13], none⟩ (.q ⟨some 15, .p (.bin .add), [.t 14, .c (.str [61])], none⟩ (.q ⟨some 16, .p (.faddr 1), [.t 5], none⟩ (.q ⟨some 17, .l (.load none), [.t 16], none⟩ (.e ⟨some 18, .i (.call 190), [.t 17], none⟩ [⟨some 14, .l (.load none), [.t 13], none⟩] (.q ⟨some 19, .p (.bin .add), [.t 15, .t 18], none⟩ (.q ⟨some 20, .p (.bsl 1 1 false [(1, .str [])] [(0, 1)]), [.t 19], none⟩ (.e ⟨some 21, .i (.append 1 16), [.t 12, .t 20], none⟩ [] (.e ⟨some 3, .p (.mv), [.t 21], none⟩ [] (.done)))))))))))))))
         (.region [
           ⟨some 22, .p (.bin .add), [.t 8, .c (.int .i64 (.ofNat 1))], none⟩,
           ⟨some 8, .p (.mv), [.t 22], none⟩])))))))
   (.seq (.region [
      ⟨some 23, .p (.mv), [.t 3], none⟩,
      ⟨some 24, .i (.call 191), [.t 23, .c (.str [44])], none⟩,
      ⟨some 2, .p (.mv), [.t 24], none⟩])
    (.ret)))), 25, [.t 2]⟩

/- varve/plain.List[varve/api.Label] -/
def a121 : AFunc := ⟨.seq (.region [
   ⟨some 2, .p (.mv), [.c (.list .full 2 [])], none⟩])
 (.seq (.region [
    ⟨some 3, .p (.mv), [.t 0], none⟩,
    ⟨some 4, .i (.append 2 32), [.c (.list .full 2 []), .t 3], none⟩,
    ⟨some 2, .p (.mv), [.t 4], none⟩])
  (.ret)), 5, [.t 2]⟩

/- varve/plain.List[varve/api.Bucket] -/
def a122 : AFunc := ⟨.seq (.region [
   ⟨some 2, .p (.mv), [.c (.list .full 2 [])], none⟩])
 (.seq (.region [
    ⟨some 3, .p (.mv), [.t 0], none⟩,
    ⟨some 4, .i (.append 2 16), [.c (.list .full 2 []), .t 3], none⟩,
    ⟨some 2, .p (.mv), [.t 4], none⟩])
  (.ret)), 5, [.t 2]⟩

/- varve/plain.List[uint64] -/
def a123 : AFunc := ⟨.seq (.region [
   ⟨some 2, .p (.mv), [.c (.list .full 1 [])], none⟩])
 (.seq (.region [
    ⟨some 3, .p (.mv), [.t 0], none⟩,
    ⟨some 4, .i (.append 1 8), [.c (.list .full 1 []), .t 3], none⟩,
    ⟨some 2, .p (.mv), [.t 4], none⟩])
  (.ret)), 5, [.t 2]⟩

/- varve/hist.Bucket -/
def a124 : AFunc := ⟨.seq (.region [
   ⟨some 2, .p (.mv), [.c (.int .i64 (.ofNat 0))], none⟩])
 (.seq (.seq (.region [
     ⟨some 4, .p (.mv), [.t 0], none⟩,
     ⟨some 5, .p (.bin .lss), [.t 4, .c (.int .u64 (.ofNat 256))], none⟩])
   (.cond (.t 5)
    (.seq (.region [
       ⟨some 6, .p (.mv), [.t 0], none⟩,
       ⟨some 7, .p (.convI .i64), [.t 6], none⟩,
       ⟨some 2, .p (.mv), [.t 7], none⟩])
     (.ret))
    (.skip)))
  (.seq (.region [
     ⟨some 8, .p (.mv), [.t 0], none⟩,
     ⟨some 9, .i (.call 192), [.t 8], none⟩,
     ⟨some 10, .p (.bin .sub), [.t 9, .c (.int .i64 (.ofNat 8))], none⟩,
     ⟨some 3, .p (.mv), [.t 10], none⟩])
   (.seq (.region [
      ⟨some 11, .p (.mv), [.t 3], none⟩,
      ⟨some 12, .p (.bin .mul), [.c (.int .i64 (.ofNat 128)), .t 11], none⟩,
      ⟨some 13, .p (.mv), [.t 0], none⟩,
      ⟨some 14, .p (.mv), [.t 3], none⟩,
      ⟨some 15, .p (.bin .shr), [.t 13, .t 14], none⟩,
      ⟨some 16, .p (.convI .i64), [.t 15], none⟩,
      ⟨some 17, .p (.bin .add), [.t 12, .t 16], none⟩,
      ⟨some 2, .p (.mv), [.t 17], none⟩])
    (.ret)))), 18, [.t 2]⟩

/- varve/wide.Add -/
def a125 : AFunc := ⟨.seq (.region [
   ⟨some 4, .p (.mv), [.c (.int .u64 (.ofNat 0))], none⟩])
 (.seq (.region [
    ⟨some 8, .p (.mv), [.t 0], none⟩,
    ⟨some 9, .p (.mv), [.t 1], none⟩,
    ⟨some 10, .p (.add64), [.t 8, .t 9, .c (.int .u64 (.ofNat 0))], none⟩,
    ⟨some 7, .p (.mv), [.t 10], none⟩,
    ⟨some 11, .p (.ext 0), [.t 7], none⟩,
    ⟨some 12, .p (.ext 1), [.t 7], none⟩,
    ⟨some 5, .p (.mv), [.t 11], none⟩,
    ⟨some 6, .p (.mv), [.t 12], none⟩])
  (.seq (.seq (.region [
      ⟨some 13, .p (.mv), [.t 6], none⟩,
      ⟨some 14, .p (.bin .gtr), [.t 13, .c (.int .u64 (.ofNat 0))], none⟩])
    (.cond (.t 14)
     (.seq (.region [
        ⟨some 4, .p (.mv), [.c (.int .u64 (.ofNat 18446744073709551615))], none⟩])
      (.ret))
     (.skip)))
   (.seq (.region [
      ⟨some 15, .p (.mv), [.t 5], none⟩,
      ⟨some 4, .p (.mv), [.t 15], none⟩])
    (.ret)))), 16, [.t 4]⟩

/- (*varve/kmv.Kmv).Hash -/
def a126 : AFunc := ⟨.seq (.seq (.region [
    ⟨some 4, .p (.mv), [.t 0], none⟩,
    ⟨some 5, .p (.isnil .ptr false), [.t 4], none⟩,
    ⟨some 6, .p (.mv), [.t 5], none⟩,
    ⟨some 7, .p (.mv), [.t 0], some (6, false)⟩,
    ⟨some 8, .p (.nilchk), [.t 7], some (6, false)⟩,
    ⟨some 9, .p (.faddr 0), [.t 8], some (6, false)⟩,
    ⟨some 10, .l (.load none), [.t 9], some (6, false)⟩,
    ⟨some 11, .p (.mv), [.t 1], some (6, false)⟩,
    ⟨some 12, .l (.lookup false [(1, .int .i64 (.ofNat 0))] false false), [.t 10, .t 11], some (6, false)⟩,
    ⟨some 13, .p (.bin .gtr), [.t 12, .c (.int .i64 (.ofNat 0))], some (6, false)⟩,
    ⟨some 14, .p (.pick), [.t 6, .c (.bool true), .t 13], none⟩,
    ⟨some 15, .p (.mv), [.t 14], none⟩,
    ⟨some 16, .p (.mv), [.t 0], some (15, false)⟩,
    ⟨some 17, .p (.nilchk), [.t 16], some (15, false)⟩,
    ⟨some 18, .p (.faddr 0), [.t 17], some (15, false)⟩,
    ⟨some 19, .l (.load none), [.t 18], some (15, false)⟩,
    ⟨some 20, .l (.lenM), [.t 19], some (15, false)⟩,
    ⟨some 21, .p (.bin .eql), [.t 20, .c (.int .i64 (.ofNat 1024))], some (15, false)⟩,
    ⟨some 22, .p (.mv), [.t 21], some (15, false)⟩,
    ⟨some 23, .p (.mv), [.t 1], some (22, true)⟩,
    ⟨some 24, .p (.mv), [.t 0], some (22, true)⟩,
    ⟨some 25, .p (.nilchk), [.t 24], some (22, true)⟩,
    ⟨some 26, .p (.faddr 1), [.t 25], some (22, true)⟩,
    ⟨some 27, .l (.load none), [.t 26], some (22, true)⟩,
    ⟨some 28, .p (.bin .gtr), [.t 23, .t 27], some (22, true)⟩,
    ⟨some 29, .p (.pick), [.t 22, .t 28, .c (.bool false)], some (15, false)⟩,
    ⟨some 30, .p (.pick), [.t 15, .c (.bool true), .t 29], none⟩])
  (.cond (.t 30)
   (.ret)
   (.skip)))
 (.seq (.region [
    ⟨some 31, .p (.mv), [.t 0], none⟩,
    ⟨some 32, .p (.nilchk), [.t 31], none⟩,
    ⟨some 33, .p (.faddr 0), [.t 32], none⟩,
    ⟨some 34, .l (.load none), [.t 33], none⟩,
    ⟨some 35, .p (.mv), [.t 1], none⟩,
    ⟨none, .i (.mapset false), [.t 34, .t 35, .c (.int .i64 (.ofNat 1))], none⟩])
  (.seq (.seq (.region [
      ⟨some 36, .p (.mv), [.t 0], none⟩,
      ⟨some 37, .p (.nilchk), [.t 36], none⟩,
      ⟨some 38, .p (.faddr 0), [.t 37], none⟩,
      ⟨some 39, .l (.load none), [.t 38], none⟩,
      ⟨some 40, .l (.lenM), [.t 39], none⟩,
      ⟨some 41, .p (.bin .gtr), [.t 40, .c (.int .i64 (.ofNat 1024))], none⟩])
    (.cond (.t 41)
     (.draw (.q ⟨some 42, .p (.mv), [.t 0], none⟩ (.q ⟨some 43, .p (.nilchk), [.t 42], none⟩ (.q ⟨some 44, .p (.faddr 0), [.t 43], none⟩ (.q ⟨some 45, .l (.load none), [.t 44], none⟩ (.q ⟨some 46, .p (.mv), [.t 0], none⟩ (.q ⟨some 47, .p (.nilchk), [.t 46], none⟩ (.q ⟨some 48, .p (.faddr 1), [.t 47], none⟩ (.q ⟨some 49, .l (.load none), [.t 48], none⟩ (.e ⟨none, .i (.delete false), [.t 45, .t 49], none⟩ [] (.done)))))))))))
     (.skip)))
   (.seq (.region [
      ⟨some 50, .p (.mv), [.t 0], none⟩,
      ⟨some 51, .p (.nilchk), [.t 50], none⟩,
      ⟨some 52, .p (.faddr 0), [.t 51], none⟩,
      ⟨some 53, .l (.load none), [.t 52], none⟩,
      ⟨some 54, .l (.lenM), [.t 53], none⟩,
      ⟨some 55, .p (.bin .eql), [.t 54, .c (.int .i64 (.ofNat 1024))], none⟩])
    (.cond (.t 55)
     (.region [
       ⟨some 56, .p (.mv), [.t 0], none⟩,
       ⟨some 57, .p (.mv), [.t 0], none⟩,
       ⟨some 58, .i (.call 194), [.t 57], none⟩,
       ⟨some 59, .p (.nilchk), [.t 56], none⟩,
       ⟨some 60, .p (.faddr 1), [.t 59], none⟩,
       ⟨none, .i (.store 1), [.t 60, .t 58], none⟩])
     (.skip))))), 61, []⟩

/- varve/fnv.Of -/
def a127 : AFunc := ⟨.seq (.region [
   ⟨some 2, .p (.mv), [.c (.int .u64 (.ofNat 0))], none⟩])
 (.seq (.region [
    ⟨some 3, .p (.mv), [.t 0], none⟩,
    ⟨some 4, .i (.call 195), [.c (.int .u64 (.ofNat 14695981039346656037)), .t 3], none⟩,
    ⟨some 2, .p (.mv), [.t 4], none⟩])
  (.ret)), 5, [.t 2]⟩

/- varve/gauge.none -/
def a128 : AFunc := ⟨.seq (.region [
   ⟨some 2, .p (.mv), [.c (.bool false)], none⟩])
 (.seq (.region [
    ⟨some 3, .p (.mv), [.t 0], none⟩,
    ⟨some 4, .p (.f64from), [.t 3], none⟩,
    ⟨some 5, .i (.call 196), [.t 4], none⟩,
    ⟨some 2, .p (.mv), [.t 5], none⟩])
  (.ret)), 6, [.t 2]⟩

/- slices.Sort[[]uint64,uint64] -/
def a129 : AFunc := ⟨.seq (.region [
   ⟨some 3, .p (.mv), [.t 0], none⟩,
   ⟨some 4, .p (.lenL), [.t 3], none⟩,
   ⟨some 2, .p (.mv), [.t 4], none⟩])
 (.region [
   ⟨some 5, .p (.mv), [.t 0], none⟩,
   ⟨some 6, .p (.mv), [.t 2], none⟩,
   ⟨some 7, .p (.mv), [.t 2], none⟩,
   ⟨some 8, .p (.convI .u64), [.t 7], none⟩,
   ⟨some 9, .i (.call 181), [.t 8], none⟩,
   ⟨some 10, .i (.call 198), [.t 5, .c (.int .i64 (.ofNat 0)), .t 6, .t 9], none⟩]), 11, []⟩

/- slices.Sort[[]string,string] -/
def a133 : AFunc := ⟨.seq (.region [
   ⟨some 3, .p (.mv), [.t 0], none⟩,
   ⟨some 4, .p (.lenL), [.t 3], none⟩,
   ⟨some 2, .p (.mv), [.t 4], none⟩])
 (.region [
   ⟨some 5, .p (.mv), [.t 0], none⟩,
   ⟨some 6, .p (.mv), [.t 2], none⟩,
   ⟨some 7, .p (.mv), [.t 2], none⟩,
   ⟨some 8, .p (.convI .u64), [.t 7], none⟩,
   ⟨some 9, .i (.call 181), [.t 8], none⟩,
   ⟨some 10, .i (.call 202), [.t 5, .c (.int .i64 (.ofNat 0)), .t 6, .t 9], none⟩]), 11, []⟩

/- (*varve/mem.Mem).Clear -/
def a140 : AFunc := ⟨.region [
  ⟨some 2, .p (.mv), [.t 0], none⟩,
  ⟨some 3, .p (.nilchk), [.t 2], none⟩,
  ⟨some 4, .p (.faddr 0), [.t 3], none⟩,
  ⟨some 5, .l (.load none), [.t 4], none⟩,
  ⟨none, .i (.clearM), [.t 5], none⟩], 6, []⟩

/- (*varve/vfs.FS).call -/
def a144 : AFunc := ⟨.seq (.region [
   ⟨some 2, .p (.mv), [.c (.int .i64 (.ofNat 0))], none⟩])
 (.seq (.region [
    ⟨some 3, .p (.mv), [.t 0], none⟩,
    ⟨some 4, .p (.nilchk), [.t 3], none⟩,
    ⟨some 5, .p (.faddr 4), [.t 4], none⟩,
    ⟨some 6, .l (.load none), [.t 5], none⟩,
    ⟨some 7, .p (.bin .add), [.t 6, .c (.int .i64 (.ofNat 1))], none⟩,
    ⟨some 8, .p (.nilchk), [.t 3], none⟩,
    ⟨some 9, .p (.faddr 4), [.t 8], none⟩,
    ⟨none, .i (.store 1), [.t 9, .t 7], none⟩])
  (.seq (.seq (.region [
      ⟨some 10, .p (.mv), [.t 0], none⟩,
      ⟨some 11, .p (.nilchk), [.t 10], none⟩,
      ⟨some 12, .p (.faddr 8), [.t 11], none⟩,
      ⟨some 13, .l (.load none), [.t 12], none⟩])
    (.cond (.t 13)
     (.seq (.region [
        ⟨some 2, .p (.mv), [.c (.int .i64 (.ofNat 15))], none⟩])
      (.ret))
     (.skip)))
   (.seq (.seq (.region [
       ⟨some 14, .p (.mv), [.t 0], none⟩,
       ⟨some 15, .p (.nilchk), [.t 14], none⟩,
       ⟨some 16, .p (.faddr 5), [.t 15], none⟩,
       ⟨some 17, .l (.load none), [.t 16], none⟩,
       ⟨some 18, .p (.un .not), [.t 17], none⟩])
     (.cond (.t 18)
      (.seq (.region [
         ⟨some 2, .p (.mv), [.c (.int .i64 (.ofNat 0))], none⟩])
       (.ret))
      (.skip)))
    (.seq (.seq (.region [
        ⟨some 19, .p (.mv), [.t 0], none⟩,
        ⟨some 20, .p (.nilchk), [.t 19], none⟩,
        ⟨some 21, .p (.faddr 7), [.t 20], none⟩,
        ⟨some 22, .l (.load none), [.t 21], none⟩,
        ⟨some 23, .p (.bin .gtr), [.t 22, .c (.int .i64 (.ofNat 0))], none⟩])
      (.cond (.t 23)
       (.seq (.region [
          ⟨some 24, .p (.mv), [.t 0], none⟩,
          ⟨some 25, .p (.nilchk), [.t 24], none⟩,
          ⟨some 26, .p (.faddr 7), [.t 25], none⟩,
          ⟨some 27, .l (.load none), [.t 26], none⟩,
          ⟨some 28, .p (.bin .sub), [.t 27, .c (.int .i64 (.ofNat 1))], none⟩,
          ⟨some 29, .p (.nilchk), [.t 24], none⟩,
          ⟨some 30, .p (.faddr 7), [.t 29], none⟩,
          ⟨none, .i (.store 1), [.t 30, .t 28], none⟩])
        (.seq (.region [
           ⟨some 2, .p (.mv), [.c (.int .i64 (.ofNat 0))], none⟩])
         (.ret)))
       (.skip)))
     (.seq (.region [
        ⟨some 31, .p (.mv), [.t 0], none⟩,
        ⟨some 32, .p (.nilchk), [.t 31], none⟩,
        ⟨some 33, .p (.faddr 5), [.t 32], none⟩,
        ⟨none, .i (.store 1), [.t 33, .c (.bool false)], none⟩])
      (.seq (.seq (.region [
          ⟨some 34, .p (.mv), [.t 0], none⟩,
          ⟨some 35, .p (.nilchk), [.t 34], none⟩,
          ⟨some 36, .p (.faddr 6), [.t 35], none⟩,
          ⟨some 37, .l (.load none), [.t 36], none⟩,
          ⟨some 38, .p (.bin .eql), [.t 37, .c (.int .i64 (.ofNat 0))], none⟩])
        (.cond (.t 38)
         (.seq (.region [
            ⟨some 39, .p (.mv), [.t 0], none⟩,
            ⟨some 40, .p (.nilchk), [.t 39], none⟩,
            ⟨some 41, .p (.faddr 8), [.t 40], none⟩,
            ⟨none, .i (.store 1), [.t 41, .c (.bool true)], none⟩])
          (.seq (.region [
             ⟨some 2, .p (.mv), [.c (.int .i64 (.ofNat 15))], none⟩])
           (.ret)))
         (.skip)))
       (.seq (.region [
          ⟨some 42, .p (.mv), [.t 0], none⟩,
          ⟨some 43, .p (.nilchk), [.t 42], none⟩,
          ⟨some 44, .p (.faddr 6), [.t 43], none⟩,
          ⟨some 45, .l (.load none), [.t 44], none⟩,
          ⟨some 2, .p (.mv), [.t 45], none⟩])
        (.ret)))))))), 46, [.t 2]⟩

/- (*varve/vfs.FS).find -/
def a145 : AFunc := ⟨.seq (.region [
   ⟨some 4, .p (.mv), [.c (.nilp)], none⟩,
   ⟨some 5, .p (.mv), [.c (.int .i64 (.ofNat 0))], none⟩])
 (.seq (.seq (.region [
     ⟨some 7, .p (.mv), [.t 1], none⟩,
     ⟨some 8, .p (.bsl 1 1 false [(1, .str [])] [(0, 1)]), [.t 7], none⟩,
     ⟨some 9, .i (.call 173), [.t 8], none⟩,
     ⟨some 10, .p (.un .not), [.t 9], none⟩])
   (.cond (.t 10)
    (.seq (.region [
       ⟨some 4, .p (.mv), [.c (.nilp)], none⟩,
       ⟨some 5, .p (.mv), [.c (.int .i64 (.ofNat 1))], none⟩])
     (.ret))
    (.skip)))
  (.seq (.region [
     ⟨some 11, .p (.mv), [.t 0], none⟩,
     ⟨some 12, .p (.nilchk), [.t 11], none⟩,
     ⟨some 13, .p (.faddr 1), [.t 12], none⟩,
     ⟨some 14, .l (.load none), [.t 13], none⟩,
     ⟨some 15, .p (.mv), [.t 1], none⟩,
     ⟨some 16, .l (.lookup true [(1, .nilp)] false false), [.t 14, .t 15], none⟩,
     ⟨some 6, .p (.mv), [.t 16], none⟩])
   (.seq (.seq (.region [
       ⟨some 17, .p (.mv), [.t 6], none⟩,
       ⟨some 18, .p (.isnil .ptr false), [.t 17], none⟩])
     (.cond (.t 18)
      (.seq (.region [
         ⟨some 4, .p (.mv), [.c (.nilp)], none⟩,
         ⟨some 5, .p (.mv), [.c (.int .i64 (.ofNat 3))], none⟩])
       (.ret))
      (.skip)))
    (.seq (.region [
       ⟨some 19, .p (.mv), [.t 6], none⟩,
       ⟨some 4, .p (.mv), [.t 19], none⟩,
       ⟨some 5, .p (.mv), [.c (.int .i64 (.ofNat 0))], none⟩])
     (.ret))))), 20, [.t 4, .t 5]⟩

/- (*varve/vfs.FS).turned -/
def a146 : AFunc := ⟨.seq (.region [
   ⟨some 3, .i (.box 4), [.t 1], none⟩])
 (.seq (.draw (.q ⟨some 4, .p (.mv), [.t 0], none⟩ (.q ⟨some 5, .p (.mv), [.t 0], none⟩ (.q ⟨some 6, .p (.nilchk), [.t 5], none⟩ (.q ⟨some 7, .p (.faddr 2), [.t 6], none⟩ (.q ⟨some 8, .l (.load none), [.t 7], none⟩ (.q ⟨some 9, .l (.load (some 4)), [.t 3], none⟩ (.q ⟨some 10, .p (.bsl 4 1 true [(1, .int .i64 (.ofNat 0)), (1, .str []), (1, .str []), (1, .nilp)] [(0, 4)]), [.t 9], none⟩ (.e ⟨some 11, .i (.append 4 48), [.t 8, .t 10], none⟩ [] (.q ⟨some 12, .p (.nilchk), [.t 4], none⟩ (.q ⟨some 13, .p (.faddr 2), [.t 12], none⟩ (.e ⟨none, .i (.store 1), [.t 13, .t 11], none⟩ [] (.done)))))))))))))
  (.draw (.q ⟨some 14, .l (.load (some 4)), [.t 3], none⟩ (.q ⟨some 15, .p (.mv), [.t 0], none⟩ (.q ⟨some 16, .p (.nilchk), [.t 15], none⟩ (.q ⟨some 17, .p (.faddr 1), [.t 16], none⟩ (.q ⟨some 18, .l (.load none), [.t 17], none⟩ (.e ⟨some 19, .i (.call 147), [.t 14, .t 18], none⟩ [] (.done))))))))), 20, []⟩

/- (varve/vfs.turn).does -/
def a147 : AFunc := ⟨.seq (.region [
   ⟨some 2, .i (.box 4), [.t 0], none⟩])
 (.seq (.region [
    ⟨some 5, .p (.faddr 0), [.t 2], none⟩,
    ⟨some 6, .l (.load none), [.t 5], none⟩])
  (.block 0 (.seq (.region [
      ⟨some 8, .p (.bin .eql), [.t 6, .c (.int .i64 (.ofNat 0))], none⟩,
      ⟨some 7, .p (.mv), [.t 8], none⟩])
    (.cond (.t 7)
     (.region [
       ⟨some 9, .p (.mv), [.t 1], none⟩,
       ⟨some 10, .p (.faddr 1), [.t 2], none⟩,
       ⟨some 11, .l (.load none), [.t 10], none⟩,
       ⟨some 12, .p (.faddr 3), [.t 2], none⟩,
       ⟨some 13, .l (.load none), [.t 12], none⟩,
       ⟨none, .i (.mapset true), [.t 9, .t 11, .t 13], none⟩])
     (.seq (.region [
        ⟨some 15, .p (.bin .eql), [.t 6, .c (.int .i64 (.ofNat 1))], none⟩,
        ⟨some 14, .p (.mv), [.t 15], none⟩])
      (.cond (.t 14)
       (.seq (.region [
          ⟨some 16, .p (.mv), [.t 1], none⟩,
          ⟨some 17, .p (.faddr 1), [.t 2], none⟩,
          ⟨some 18, .l (.load none), [.t 17], none⟩,
          ⟨some 19, .l (.lookup true [(1, .nilp)] false false), [.t 16, .t 18], none⟩,
          ⟨some 4, .p (.mv), [.t 19], none⟩])
        (.seq (.region [
           ⟨some 20, .p (.mv), [.t 1], none⟩,
           ⟨some 21, .p (.faddr 1), [.t 2], none⟩,
           ⟨some 22, .l (.load none), [.t 21], none⟩,
           ⟨none, .i (.delete true), [.t 20, .t 22], none⟩])
         (.region [
           ⟨some 23, .p (.mv), [.t 1], none⟩,
           ⟨some 24, .p (.faddr 2), [.t 2], none⟩,
           ⟨some 25, .l (.load none), [.t 24], none⟩,
           ⟨some 26, .p (.mv), [.t 4], none⟩,
           ⟨none, .i (.mapset true), [.t 23, .t 25, .t 26], none⟩])))
       (.seq (.region [
          ⟨some 28, .p (.bin .eql), [.t 6, .c (.int .i64 (.ofNat 2))], none⟩,
          ⟨some 27, .p (.mv), [.t 28], none⟩])
        (.cond (.t 27)
         (.region [
           ⟨some 29, .p (.mv), [.t 1], none⟩,
           ⟨some 30, .p (.faddr 1), [.t 2], none⟩,
           ⟨some 31, .l (.load none), [.t 30], none⟩,
           ⟨none, .i (.delete true), [.t 29, .t 31], none⟩])
         (.skip))))))))), 32, []⟩

/- varve/match.alone -/
def a148 : AFunc := ⟨.seq (.region [
   ⟨some 1, .i (.box 5), [.t 0], none⟩,
   ⟨some 2, .p (.mv), [.c (.bool false)], none⟩])
 (.seq (.region [
    ⟨some 5, .p (.faddr 1), [.t 1], none⟩,
    ⟨some 6, .l (.load none), [.t 5], none⟩,
    ⟨some 7, .i (.call 53), [.t 6], none⟩,
    ⟨some 8, .p (.mv), [.t 7], none⟩,
    ⟨some 9, .p (.faddr 2), [.t 1], some (8, true)⟩,
    ⟨some 10, .l (.load none), [.t 9], some (8, true)⟩,
    ⟨some 11, .p (.lenS), [.t 10], some (8, true)⟩,
    ⟨some 12, .p (.bin .leq), [.t 11, .c (.int .i64 (.ofNat 64))], some (8, true)⟩,
    ⟨some 13, .p (.pick), [.t 8, .t 12, .c (.bool false)], none⟩,
    ⟨some 14, .p (.mv), [.t 13], none⟩,
    ⟨some 15, .p (.faddr 4), [.t 1], some (14, true)⟩,
    ⟨some 16, .l (.load none), [.t 15], some (14, true)⟩,
    ⟨some 17, .p (.lenL), [.t 16], some (14, true)⟩,
    ⟨some 18, .p (.bin .eql), [.t 17, .c (.int .i64 (.ofNat 0))], some (14, true)⟩,
    ⟨some 19, .p (.pick), [.t 14, .t 18, .c (.bool false)], none⟩,
    ⟨some 3, .p (.mv), [.t 19], none⟩])
  (.seq (.region [
     ⟨some 20, .p (.faddr 1), [.t 1], none⟩,
     ⟨some 21, .l (.load none), [.t 20], none⟩,
     ⟨some 22, .p (.bin .eql), [.t 21, .c (.str [])], none⟩,
     ⟨some 23, .p (.mv), [.t 22], none⟩,
     ⟨some 24, .p (.faddr 2), [.t 1], some (23, true)⟩,
     ⟨some 25, .l (.load none), [.t 24], some (23, true)⟩,
     ⟨some 26, .p (.bin .eql), [.t 25, .c (.str [])], some (23, true)⟩,
     ⟨some 27, .p (.pick), [.t 23, .t 26, .c (.bool false)], none⟩,
     ⟨some 28, .p (.mv), [.t 27], none⟩,
     ⟨some 29, .p (.faddr 3), [.t 1], some (28, true)⟩,
     ⟨some 30, .l (.load none), [.t 29], some (28, true)⟩,
     ⟨some 31, .p (.lenL), [.t 30], some (28, true)⟩,
     ⟨some 32, .p (.bin .eql), [.t 31, .c (.int .i64 (.ofNat 0))], some (28, true)⟩,
     ⟨some 33, .p (.pick), [.t 28, .t 32, .c (.bool false)], none⟩,
     ⟨some 4, .p (.mv), [.t 33], none⟩])
   (.seq (.seq (.region [
       ⟨some 34, .p (.faddr 0), [.t 1], none⟩,
       ⟨some 35, .l (.load none), [.t 34], none⟩])
     (.block 0 (.seq (.region [
         ⟨some 37, .p (.bin .eql), [.t 35, .c (.int .i64 (.ofNat 0))], none⟩,
         ⟨some 36, .p (.mv), [.t 37], none⟩])
       (.cond (.t 36)
        (.seq (.region [
           ⟨some 38, .p (.mv), [.t 4], none⟩,
           ⟨some 39, .p (.mv), [.t 38], none⟩,
           ⟨some 40, .p (.faddr 4), [.t 1], some (39, true)⟩,
           ⟨some 41, .l (.load none), [.t 40], some (39, true)⟩,
           ⟨some 42, .p (.lenL), [.t 41], some (39, true)⟩,
           ⟨some 43, .p (.bin .eql), [.t 42, .c (.int .i64 (.ofNat 0))], some (39, true)⟩,
           ⟨some 44, .p (.pick), [.t 39, .t 43, .c (.bool false)], none⟩,
           ⟨some 2, .p (.mv), [.t 44], none⟩])
         (.ret))
        (.seq (.seq (.region [
            ⟨some 46, .p (.bin .eql), [.t 35, .c (.int .i64 (.ofNat 1))], none⟩,
            ⟨some 45, .p (.mv), [.t 46], none⟩])
          (.cond (.t 45)
           (.skip)
           (.seq (.region [
              ⟨some 47, .p (.bin .eql), [.t 35, .c (.int .i64 (.ofNat 2))], none⟩,
              ⟨some 45, .p (.mv), [.t 47], none⟩])
            (.cond (.t 45)
             (.skip)
             (.region [
               ⟨some 48, .p (.bin .eql), [.t 35, .c (.int .i64 (.ofNat 3))], none⟩,
               ⟨some 45, .p (.mv), [.t 48], none⟩])))))
         (.cond (.t 45)
          (.seq (.region [
             ⟨some 49, .p (.mv), [.t 3], none⟩,
             ⟨some 50, .p (.mv), [.t 49], none⟩,
             ⟨some 51, .p (.faddr 3), [.t 1], some (50, true)⟩,
             ⟨some 52, .l (.load none), [.t 51], some (50, true)⟩,
             ⟨some 53, .p (.lenL), [.t 52], some (50, true)⟩,
             ⟨some 54, .p (.bin .eql), [.t 53, .c (.int .i64 (.ofNat 0))], some (50, true)⟩,
             ⟨some 55, .p (.pick), [.t 50, .t 54, .c (.bool false)], none⟩,
             ⟨some 2, .p (.mv), [.t 55], none⟩])
           (.ret))
          (.seq (.region [
             ⟨some 57, .p (.bin .eql), [.t 35, .c (.int .i64 (.ofNat 4))], none⟩,
             ⟨some 56, .p (.mv), [.t 57], none⟩])
           (.cond (.t 56)
            (.seq (.region [
               ⟨some 58, .p (.mv), [.t 3], none⟩,
               ⟨some 59, .p (.mv), [.t 58], none⟩,
               ⟨some 60, .p (.faddr 2), [.t 1], some (59, true)⟩,
               ⟨some 61, .l (.load none), [.t 60], some (59, true)⟩,
               ⟨some 62, .p (.bin .eql), [.t 61, .c (.str [])], some (59, true)⟩,
               ⟨some 63, .p (.pick), [.t 59, .t 62, .c (.bool false)], none⟩,
               ⟨some 64, .p (.mv), [.t 63], none⟩,
               ⟨some 65, .p (.faddr 3), [.t 1], some (64, true)⟩,
               ⟨some 66, .l (.load none), [.t 65], some (64, true)⟩,
               ⟨some 67, .i (.call 211), [.t 66], some (64, true)⟩,
               ⟨some 68, .p (.pick), [.t 64, .t 67, .c (.bool false)], none⟩,
               ⟨some 2, .p (.mv), [.t 68], none⟩])
             (.ret))
            (.seq (.seq (.region [
                ⟨some 70, .p (.bin .eql), [.t 35, .c (.int .i64 (.ofNat 5))], none⟩,
                ⟨some 69, .p (.mv), [.t 70], none⟩])
              (.cond (.t 69)
               (.skip)
               (.region [
                 ⟨some 71, .p (.bin .eql), [.t 35, .c (.int .i64 (.ofNat 6))], none⟩,
                 ⟨some 69, .p (.mv), [.t 71], none⟩])))
             (.cond (.t 69)
              (.seq (.region [
                 ⟨some 72, .p (.mv), [.t 4], none⟩,
                 ⟨some 2, .p (.mv), [.t 72], none⟩])
               (.ret))
              (.seq (.region [
                 ⟨some 74, .p (.bin .eql), [.t 35, .c (.int .i64 (.ofNat 7))], none⟩,
                 ⟨some 73, .p (.mv), [.t 74], none⟩])
               (.cond (.t 73)
                (.seq (.region [
                   ⟨some 75, .p (.mv), [.t 4], none⟩,
                   ⟨some 76, .p (.mv), [.t 75], none⟩,
                   ⟨some 77, .p (.faddr 4), [.t 1], some (76, true)⟩,
                   ⟨some 78, .l (.load none), [.t 77], some (76, true)⟩,
                   ⟨some 79, .p (.lenL), [.t 78], some (76, true)⟩,
                   ⟨some 80, .p (.bin .eql), [.t 79, .c (.int .i64 (.ofNat 1))], some (76, true)⟩,
                   ⟨some 81, .p (.pick), [.t 76, .t 80, .c (.bool false)], none⟩,
                   ⟨some 2, .p (.mv), [.t 81], none⟩])
                 (.ret))
                (.skip)))))))))))))
    (.seq (.region [
       ⟨some 2, .p (.mv), [.c (.bool false)], none⟩])
     (.ret))))), 82, [.t 2]⟩

/- varve/frame.Put -/
def a149 : AFunc := ⟨.seq (.region [
   ⟨some 4, .p (.mv), [.c (.list .full 1 [])], none⟩,
   ⟨some 5, .p (.mv), [.c (.int .i64 (.ofNat 0))], none⟩])
 (.seq (.seq (.region [
     ⟨some 7, .p (.mv), [.t 1], none⟩,
     ⟨some 8, .p (.lenL), [.t 7], none⟩,
     ⟨some 9, .p (.bin .lss), [.t 8, .c (.int .i64 (.ofNat 1))], none⟩,
     ⟨some 10, .p (.mv), [.t 9], none⟩,
     ⟨some 11, .p (.mv), [.t 1], some (10, false)⟩,
     ⟨some 12, .p (.lenL), [.t 11], some (10, false)⟩,
     ⟨some 13, .p (.bin .gtr), [.t 12, .c (.int .i64 (.ofNat 1048576))], some (10, false)⟩,
     ⟨some 14, .p (.pick), [.t 10, .c (.bool true), .t 13], none⟩])
   (.cond (.t 14)
    (.seq (.region [
       ⟨some 15, .p (.mv), [.t 0], none⟩,
       ⟨some 4, .p (.mv), [.t 15], none⟩,
       ⟨some 5, .p (.mv), [.c (.int .i64 (.ofNat 1))], none⟩])
     (.ret))
    (.skip)))
  (.seq (.region [
     ⟨some 16, .p (.mv), [.t 1], none⟩,
     ⟨some 17, .i (.call 212), [.t 16], none⟩,
     ⟨some 6, .p (.mv), [.t 17], none⟩])
   (.seq (.region [
      ⟨some 18, .p (.mv), [.t 0], none⟩,
      ⟨some 19, .p (.mv), [.t 1], none⟩,
      ⟨some 20, .p (.lenL), [.t 19], none⟩,
      ⟨some 21, .p (.convI .u64), [.t 20], none⟩,
      ⟨some 22, .i (.call 171), [.t 18, .t 21], none⟩,
      ⟨some 23, .p (.mv), [.t 6], none⟩,
      ⟨some 24, .p (.convI .u8), [.t 23], none⟩,
      ⟨some 25, .p (.mv), [.t 6], none⟩,
      ⟨some 26, .p (.bin .shr), [.t 25, .c (.int .u64 (.ofNat 8))], none⟩,
      ⟨some 27, .p (.convI .u8), [.t 26], none⟩,
      ⟨some 28, .p (.mv), [.t 6], none⟩,
      ⟨some 29, .p (.bin .shr), [.t 28, .c (.int .u64 (.ofNat 16))], none⟩,
      ⟨some 30, .p (.convI .u8), [.t 29], none⟩,
      ⟨some 31, .p (.mv), [.t 6], none⟩,
      ⟨some 32, .p (.bin .shr), [.t 31, .c (.int .u64 (.ofNat 24))], none⟩,
      ⟨some 33, .p (.convI .u8), [.t 32], none⟩,
      ⟨some 34, .p (.bsl 1 4 false [(1, .int .u8 (.ofNat 0))] [(0, 1), (1, 1), (2, 1), (3, 1)]), [.t 24, .t 27, .t 30, .t 33], none⟩,
      ⟨some 35, .i (.append 1 1), [.t 22, .t 34], none⟩,
      ⟨some 0, .p (.mv), [.t 35], none⟩])
    (.seq (.region [
       ⟨some 36, .p (.mv), [.t 0], none⟩,
       ⟨some 37, .p (.mv), [.t 1], none⟩,
       ⟨some 38, .i (.append 1 1), [.t 36, .t 37], none⟩,
       ⟨some 4, .p (.mv), [.t 38], none⟩,
       ⟨some 5, .p (.mv), [.c (.int .i64 (.ofNat 0))], none⟩])
     (.ret))))), 39, [.t 4, .t 5]⟩

/- varve/wal.PutRec -/
def a150 : AFunc := ⟨.seq (.region [
   ⟨some 3, .i (.box 18), [.t 1], none⟩,
   ⟨some 4, .p (.mv), [.c (.list .full 1 [])], none⟩])
 (.seq (.draw (.q ⟨some 5, .p (.mv), [.t 0], none⟩ (.q ⟨some 6, .p (.faddr 0), [.t 3], none⟩ (.q ⟨some 7, .l (.load none), [.t 6], none⟩ (.q ⟨some 9, .p (.faddr 1), [.t 3], none⟩ (.q ⟨some 10, .l (.load none), [.t 9], none⟩ (.q ⟨some 11, .p (.convI .u64), [.t 10], none⟩ (.e ⟨some 8, .i (.call 170), [.t 5, .t 7], none⟩ [⟨some 10, .l (.load none), [.t 9], none⟩] (.e ⟨some 12, .i (.call 171), [.t 8, .t 11], none⟩ [] (.e ⟨some 0, .p (.mv), [.t 12], none⟩ [] (.done)))))))))))
  (.seq (.seq (.region [
      ⟨some 13, .p (.faddr 1), [.t 3], none⟩,
      ⟨some 14, .l (.load none), [.t 13], none⟩,
      ⟨some 15, .p (.bin .eql), [.t 14, .c (.int .i64 (.ofNat 1))], none⟩])
    (.cond (.t 15)
     (.seq (.draw (.q ⟨some 16, .p (.mv), [.t 0], none⟩ (.q ⟨some 17, .p (.faddr 2), [.t 3], none⟩ (.q ⟨some 18, .p (.faddr 0), [.t 17], none⟩ (.q ⟨some 19, .l (.load none), [.t 18], none⟩ (.q ⟨some 21, .p (.faddr 2), [.t 3], none⟩ (.q ⟨some 22, .p (.faddr 1), [.t 21], none⟩ (.q ⟨some 23, .l (.load none), [.t 22], none⟩ (.q ⟨some 25, .p (.faddr 2), [.t 3], none⟩ (.q ⟨some 26, .p (.faddr 2), [.t 25], none⟩ (.q ⟨some 27, .l (.load (some 6)), [.t 26], none⟩ (.e ⟨some 20, .i (.call 214), [.t 16, .t 19], none⟩ [⟨some 23, .l (.load none), [.t 22], none⟩, ⟨some 27, .l (.load (some 6)), [.t 26], none⟩] (.e ⟨some 24, .i (.call 170), [.t 20, .t 23], none⟩ [⟨some 27, .l (.load (some 6)), [.t 26], none⟩] (.e ⟨some 28, .i (.call 213), [.t 24, .t 27], none⟩ [] (.q ⟨some 4, .p (.mv), [.t 28], none⟩ (.done))))))))))))))))
      (.ret))
     (.skip)))
   (.seq (.draw (.q ⟨some 29, .p (.mv), [.t 0], none⟩ (.q ⟨some 30, .p (.faddr 10), [.t 3], none⟩ (.q ⟨some 31, .p (.faddr 1), [.t 30], none⟩ (.q ⟨some 32, .l (.load (some 5)), [.t 31], none⟩ (.q ⟨some 34, .p (.faddr 10), [.t 3], none⟩ (.q ⟨some 35, .p (.faddr 6), [.t 34], none⟩ (.q ⟨some 36, .l (.load none), [.t 35], none⟩ (.q ⟨some 38, .p (.faddr 10), [.t 3], none⟩ (.q ⟨some 39, .p (.faddr 7), [.t 38], none⟩ (.q ⟨some 40, .l (.load none), [.t 39], none⟩ (.e ⟨some 33, .i (.call 215), [.t 29, .t 32], none⟩ [⟨some 36, .l (.load none), [.t 35], none⟩, ⟨some 40, .l (.load none), [.t 39], none⟩] (.e ⟨some 37, .i (.call 170), [.t 33, .t 36], none⟩ [⟨some 40, .l (.load none), [.t 39], none⟩] (.e ⟨some 41, .i (.call 170), [.t 37, .t 40], none⟩ [] (.q ⟨some 4, .p (.mv), [.t 41], none⟩ (.done))))))))))))))))
    (.ret)))), 42, [.t 4]⟩

/- varve/pair.Empty -/
def a151 : AFunc := ⟨.seq (.region [
   ⟨some 1, .i (.box 6), [.t 0], none⟩,
   ⟨some 2, .p (.mv), [.c (.bool false)], none⟩])
 (.seq (.region [
    ⟨some 3, .p (.faddr 0), [.t 1], none⟩,
    ⟨some 4, .l (.load none), [.t 3], none⟩,
    ⟨some 5, .p (.lenL), [.t 4], none⟩,
    ⟨some 6, .p (.bin .eql), [.t 5, .c (.int .i64 (.ofNat 0))], none⟩,
    ⟨some 7, .p (.mv), [.t 6], none⟩,
    ⟨some 8, .p (.faddr 1), [.t 1], some (7, true)⟩,
    ⟨some 9, .l (.load none), [.t 8], some (7, true)⟩,
    ⟨some 10, .p (.lenL), [.t 9], some (7, true)⟩,
    ⟨some 11, .p (.bin .eql), [.t 10, .c (.int .i64 (.ofNat 0))], some (7, true)⟩,
    ⟨some 12, .p (.pick), [.t 7, .t 11, .c (.bool false)], none⟩,
    ⟨some 13, .p (.mv), [.t 12], none⟩,
    ⟨some 14, .p (.faddr 2), [.t 1], some (13, true)⟩,
    ⟨some 15, .p (.faddr 0), [.t 14], some (13, true)⟩,
    ⟨some 16, .l (.load none), [.t 15], some (13, true)⟩,
    ⟨some 17, .p (.bin .eql), [.t 16, .c (.int .u64 (.ofNat 0))], some (13, true)⟩,
    ⟨some 18, .p (.pick), [.t 13, .t 17, .c (.bool false)], none⟩,
    ⟨some 19, .p (.mv), [.t 18], none⟩,
    ⟨some 20, .p (.faddr 2), [.t 1], some (19, true)⟩,
    ⟨some 21, .p (.faddr 1), [.t 20], some (19, true)⟩,
    ⟨some 22, .l (.load none), [.t 21], some (19, true)⟩,
    ⟨some 23, .p (.bin .eql), [.t 22, .c (.int .u64 (.ofNat 0))], some (19, true)⟩,
    ⟨some 24, .p (.pick), [.t 19, .t 23, .c (.bool false)], none⟩,
    ⟨some 2, .p (.mv), [.t 24], none⟩])
  (.ret)), 25, [.t 2]⟩

/- (*varve/mem.Mem).Add -/
def a152 : AFunc := ⟨.seq (.region [
   ⟨some 3, .i (.box 8), [.t 1], none⟩,
   ⟨some 4, .p (.mv), [.c (.int .i64 (.ofNat 0))], none⟩])
 (.seq (.seq (.region [
     ⟨some 8, .p (.mv), [.t 0], none⟩,
     ⟨some 9, .p (.isnil .ptr false), [.t 8], none⟩,
     ⟨some 10, .p (.mv), [.t 9], none⟩,
     ⟨some 11, .p (.faddr 0), [.t 3], some (10, false)⟩,
     ⟨some 12, .l (.load none), [.t 11], some (10, false)⟩,
     ⟨some 13, .i (.call 30), [.t 12], some (10, false)⟩,
     ⟨some 14, .p (.un .not), [.t 13], some (10, false)⟩,
     ⟨some 15, .p (.pick), [.t 10, .c (.bool true), .t 14], none⟩,
     ⟨some 16, .p (.mv), [.t 15], none⟩,
     ⟨some 17, .p (.faddr 2), [.t 3], some (16, false)⟩,
     ⟨some 18, .l (.load (some 6)), [.t 17], some (16, false)⟩,
     ⟨some 19, .i (.call 105), [.t 18], some (16, false)⟩,
     ⟨some 20, .p (.un .not), [.t 19], some (16, false)⟩,
     ⟨some 21, .p (.pick), [.t 16, .c (.bool true), .t 20], none⟩,
     ⟨some 22, .p (.mv), [.t 21], none⟩,
     ⟨some 23, .p (.faddr 1), [.t 3], some (22, false)⟩,
     ⟨some 24, .l (.load none), [.t 23], some (22, false)⟩,
     ⟨some 25, .p (.bin .lss), [.t 24, .c (.int .i64 (.ofNat 0))], some (22, false)⟩,
     ⟨some 26, .p (.pick), [.t 22, .c (.bool true), .t 25], none⟩,
     ⟨some 27, .p (.mv), [.t 26], none⟩,
     ⟨some 28, .p (.faddr 1), [.t 3], some (27, false)⟩,
     ⟨some 29, .l (.load none), [.t 28], some (27, false)⟩,
     ⟨some 30, .p (.bin .geq), [.t 29, .c (.int .i64 (.ofNat 1099511627776))], some (27, false)⟩,
     ⟨some 31, .p (.pick), [.t 27, .c (.bool true), .t 30], none⟩])
   (.cond (.t 31)
    (.seq (.region [
       ⟨some 4, .p (.mv), [.c (.int .i64 (.ofNat 5))], none⟩])
     (.ret))
    (.skip)))
  (.seq (.draw (.q ⟨some 32, .p (.faddr 0), [.t 3], none⟩ (.q ⟨some 33, .l (.load none), [.t 32], none⟩ (.q ⟨some 36, .p (.faddr 1), [.t 3], none⟩ (.q ⟨some 37, .l (.load none), [.t 36], none⟩ (.e ⟨some 34, .i (.call 120), [.t 33], none⟩ [⟨some 37, .l (.load none), [.t 36], none⟩] (.q ⟨some 35, .p (.bin .add), [.t 34, .c (.str [32])], none⟩ (.e ⟨some 38, .i (.call 216), [.t 37], none⟩ [] (.q ⟨some 39, .p (.bin .add), [.t 35, .t 38], none⟩ (.q ⟨some 5, .p (.mv), [.t 39], none⟩ (.done)))))))))))
   (.seq (.draw (.q ⟨some 41, .p (.mv), [.t 0], none⟩ (.q ⟨some 42, .p (.nilchk), [.t 41], none⟩ (.q ⟨some 43, .p (.faddr 0), [.t 42], none⟩ (.q ⟨some 44, .l (.load none), [.t 43], none⟩ (.q ⟨some 45, .p (.mv), [.t 5], none⟩ (.q ⟨some 46, .l (.lookup true [(1, .list .full 2 []), (1, .int .i64 (.ofNat 0)), (1, .list .full 2 []), (1, .list .full 1 []), (1, .int .u64 (.ofNat 0)), (1, .int .u64 (.ofNat 0)), (1, .int .u64 (.ofNat 0)), (1, .int .u64 (.ofNat 0))] true false), [.t 44, .t 45], none⟩ (.q ⟨some 47, .p (.field 2 (some 6)), [.t 46], none⟩ (.q ⟨some 48, .p (.faddr 2), [.t 3], none⟩ (.q ⟨some 49, .l (.load (some 6)), [.t 48], none⟩ (.both (.e ⟨some 50, .i (.call 217), [.t 47, .t 49], none⟩ [] (.q ⟨some 40, .p (.mv), [.t 50], none⟩ (.q ⟨some 51, .p (.ext 0), [.t 40], none⟩ (.q ⟨some 52, .p (.ext 1), [.t 40], none⟩ (.e ⟨some 6, .i (.alloc [(1, .list .full 2 []), (1, .list .full 1 []), (1, .int .u64 (.ofNat 0)), (1, .int .u64 (.ofNat 0)), (1, .int .u64 (.ofNat 0)), (1, .int .u64 (.ofNat 0))]), [], none⟩ [⟨some 44, .l (.load none), [.t 43], none⟩, ⟨some 46, .l (.lookup true [(1, .list .full 2 []), (1, .int .i64 (.ofNat 0)), (1, .list .full 2 []), (1, .list .full 1 []), (1, .int .u64 (.ofNat 0)), (1, .int .u64 (.ofNat 0)), (1, .int .u64 (.ofNat 0)), (1, .int .u64 (.ofNat 0))] true false), [.t 44, .t 45], none⟩, ⟨some 49, .l (.load (some 6)), [.t 48], none⟩] (.e ⟨none, .i (.store 6), [.t 6, .t 51], none⟩ [] (.q ⟨some 7, .p (.mv), [.t 52], none⟩ (.done)))))))) (.e ⟨some 6, .i (.alloc [(1, .list .full 2 []), (1, .list .full 1 []), (1, .int .u64 (.ofNat 0)), (1, .int .u64 (.ofNat 0)), (1, .int .u64 (.ofNat 0)), (1, .int .u64 (.ofNat 0))]), [], none⟩ [⟨some 44, .l (.load none), [.t 43], none⟩, ⟨some 46, .l (.lookup true [(1, .list .full 2 []), (1, .int .i64 (.ofNat 0)), (1, .list .full 2 []), (1, .list .full 1 []), (1, .int .u64 (.ofNat 0)), (1, .int .u64 (.ofNat 0)), (1, .int .u64 (.ofNat 0)), (1, .int .u64 (.ofNat 0))] true false), [.t 44, .t 45], none⟩, ⟨some 49, .l (.load (some 6)), [.t 48], none⟩] (.e ⟨some 50, .i (.call 217), [.t 47, .t 49], none⟩ [] (.q ⟨some 40, .p (.mv), [.t 50], none⟩ (.q ⟨some 51, .p (.ext 0), [.t 40], none⟩ (.q ⟨some 52, .p (.ext 1), [.t 40], none⟩ (.e ⟨none, .i (.store 6), [.t 6, .t 51], none⟩ [] (.q ⟨some 7, .p (.mv), [.t 52], none⟩ (.done)))))))))))))))))))
    (.seq (.seq (.region [
        ⟨some 53, .p (.mv), [.t 7], none⟩,
        ⟨some 54, .p (.bin .neq), [.t 53, .c (.int .i64 (.ofNat 0))], none⟩])
      (.cond (.t 54)
       (.seq (.region [
          ⟨some 55, .p (.mv), [.t 7], none⟩,
          ⟨some 4, .p (.mv), [.t 55], none⟩])
        (.ret))
       (.skip)))
     (.seq (.draw (.q ⟨some 56, .p (.mv), [.t 0], none⟩ (.q ⟨some 57, .p (.nilchk), [.t 56], none⟩ (.q ⟨some 58, .p (.faddr 0), [.t 57], none⟩ (.q ⟨some 59, .l (.load none), [.t 58], none⟩ (.q ⟨some 60, .p (.mv), [.t 5], none⟩ (.q ⟨some 61, .p (.faddr 0), [.t 3], none⟩ (.q ⟨some 62, .l (.load none), [.t 61], none⟩ (.q ⟨some 64, .p (.faddr 1), [.t 3], none⟩ (.q ⟨some 65, .l (.load none), [.t 64], none⟩ (.q ⟨some 66, .l (.load (some 6)), [.t 6], none⟩ (.e ⟨some 63, .i (.call 121), [.t 62], none⟩ [⟨some 59, .l (.load none), [.t 58], none⟩, ⟨some 65, .l (.load none), [.t 64], none⟩, ⟨some 66, .l (.load (some 6)), [.t 6], none⟩] (.q ⟨some 67, .p (.build [(1, .list .full 2 []), (1, .int .i64 (.ofNat 0)), (1, .list .full 2 []), (1, .list .full 1 []), (1, .int .u64 (.ofNat 0)), (1, .int .u64 (.ofNat 0)), (1, .int .u64 (.ofNat 0)), (1, .int .u64 (.ofNat 0))] [(0, 1), (1, 1), (2, 6)]), [.t 63, .t 65, .t 66], none⟩ (.e ⟨none, .i (.mapset true), [.t 59, .t 60, .t 67], none⟩ [] (.done)))))))))))))))
      (.seq (.region [
         ⟨some 4, .p (.mv), [.c (.int .i64 (.ofNat 0))], none⟩])
       (.ret))))))), 68, [.t 4]⟩

/- slices.SortStableFunc[[]varve/api.Row,varve/api.Row] -/
def a155 : AFunc := ⟨.region [
  ⟨some 4, .p (.mv), [.t 0], none⟩,
  ⟨some 5, .p (.mv), [.t 0], none⟩,
  ⟨some 6, .p (.lenL), [.t 5], none⟩,
  ⟨some 7, .p (.mv), [.t 1], none⟩,
  ⟨some 8, .i (.call 218), [.t 4, .t 6, .t 7], none⟩], 9, []⟩

/- varve/plain.Name -/
def a158 : AFunc := ⟨.seq (.region [
   ⟨some 4, .p (.mv), [.c (.str [])], none⟩])
 (.seq (.seq (.region [
     ⟨some 7, .p (.mv), [.t 1], none⟩,
     ⟨some 8, .p (.bin .lss), [.t 7, .c (.int .i64 (.ofNat 0))], none⟩,
     ⟨some 9, .p (.mv), [.t 8], none⟩,
     ⟨some 10, .p (.mv), [.t 1], some (9, false)⟩,
     ⟨some 11, .p (.bin .gtr), [.t 10, .c (.int .i64 (.ofNat 99999999))], some (9, false)⟩,
     ⟨some 12, .p (.pick), [.t 9, .c (.bool true), .t 11], none⟩])
   (.cond (.t 12)
    (.seq (.region [
       ⟨some 4, .p (.mv), [.c (.str [])], none⟩])
     (.ret))
    (.skip)))
  (.seq (.region [
     ⟨some 13, .p (.mv), [.t 0], none⟩,
     ⟨some 14, .p (.bin .add), [.t 13, .c (.str [48, 48, 48, 48, 48, 48, 48, 48])], none⟩,
     ⟨some 15, .i (.convB), [.t 14], none⟩,
     ⟨some 5, .p (.mv), [.t 15], none⟩])
   (.seq (.seq (.region [
       ⟨some 16, .p (.mv), [.t 5], none⟩,
       ⟨some 17, .p (.lenL), [.t 16], none⟩,
       ⟨some 18, .p (.bin .sub), [.t 17, .c (.int .i64 (.ofNat 1))], none⟩,
       ⟨some 6, .p (.mv), [.t 18], none⟩])
     (.block 0 (.loop (.seq (.seq (.region [
           ⟨some 19, .p (.mv), [.t 1], none⟩,
           ⟨some 20, .p (.bin .gtr), [.t 19, .c (.int .i64 (.ofNat 0))], none⟩])
         (.cond (.t 20)
          (.skip)
          (.exit 0)))
        (.seq (.block 1 (.seq (.region [
             ⟨some 23, .p (.mv), [.t 5], none⟩,
             ⟨some 24, .p (.mv), [.t 6], none⟩,
             ⟨some 25, .p (.iaddr 1), [.t 23, .t 24], none⟩,
             ⟨some 26, .l (.load none), [.t 25], none⟩,
             ⟨some 27, .p (.mv), [.t 1], none⟩,
             ⟨some 28, .p (.bin .rem), [.t 27, .c (.int .i64 (.ofNat 10))], none⟩,
             ⟨some 29, .p (.convI .u8), [.t 28], none⟩,
             ⟨some 30, .p (.bin .add), [.t 26, .t 29], none⟩,
             ⟨some 31, .p (.iaddr 1), [.t 23, .t 24], none⟩,
             ⟨none, .i (.store 1), [.t 31, .t 30], none⟩])
           (.region [
             ⟨some 32, .p (.mv), [.t 1], none⟩,
             ⟨some 33, .p (.bin .quo), [.t 32, .c (.int .i64 (.ofNat 10))], none⟩,
             ⟨some 1, .p (.mv), [.t 33], none⟩])))
         (.region [
           ⟨some 21, .p (.mv), [.t 6], none⟩,
           ⟨some 22, .p (.bin .sub), [.t 21, .c (.int .i64 (.ofNat 1))], none⟩,
           ⟨some 6, .p (.mv), [.t 22], none⟩]))))))
    (.seq (.region [
       ⟨some 34, .p (.mv), [.t 5], none⟩,
       ⟨some 35, .l (.convS), [.t 34], none⟩,
       ⟨some 4, .p (.mv), [.t 35], none⟩])
     (.ret))))), 36, [.t 4]⟩

/- varve/man.Check -/
def a169 : AFunc := ⟨.seq (.region [
   ⟨some 1, .i (.box 6), [.t 0], none⟩,
   ⟨some 2, .p (.mv), [.c (.bool false)], none⟩])
 (.seq (.seq (.region [
     ⟨some 7, .p (.faddr 0), [.t 1], none⟩,
     ⟨some 8, .l (.load none), [.t 7], none⟩,
     ⟨some 9, .p (.bin .lss), [.t 8, .c (.int .i64 (.ofNat 0))], none⟩,
     ⟨some 10, .p (.mv), [.t 9], none⟩,
     ⟨some 11, .p (.faddr 0), [.t 1], some (10, false)⟩,
     ⟨some 12, .l (.load none), [.t 11], some (10, false)⟩,
     ⟨some 13, .p (.bin .gtr), [.t 12, .c (.int .i64 (.ofNat 1099511627776))], some (10, false)⟩,
     ⟨some 14, .p (.pick), [.t 10, .c (.bool true), .t 13], none⟩,
     ⟨some 15, .p (.mv), [.t 14], none⟩,
     ⟨some 16, .p (.faddr 1), [.t 1], some (15, false)⟩,
     ⟨some 17, .l (.load none), [.t 16], some (15, false)⟩,
     ⟨some 18, .i (.call 100), [.t 17], some (15, false)⟩,
     ⟨some 19, .p (.bin .eql), [.t 18, .c (.str [])], some (15, false)⟩,
     ⟨some 20, .p (.pick), [.t 15, .c (.bool true), .t 19], none⟩,
     ⟨some 21, .p (.mv), [.t 20], none⟩,
     ⟨some 22, .p (.faddr 2), [.t 1], some (21, false)⟩,
     ⟨some 23, .l (.load none), [.t 22], some (21, false)⟩,
     ⟨some 24, .i (.call 85), [.t 23], some (21, false)⟩,
     ⟨some 25, .p (.bin .eql), [.t 24, .c (.str [])], some (21, false)⟩,
     ⟨some 26, .p (.pick), [.t 21, .c (.bool true), .t 25], none⟩,
     ⟨some 27, .p (.mv), [.t 26], none⟩,
     ⟨some 28, .p (.faddr 3), [.t 1], some (27, false)⟩,
     ⟨some 29, .l (.load none), [.t 28], some (27, false)⟩,
     ⟨some 30, .p (.bin .lss), [.t 29, .c (.int .i64 (.ofNat 0))], some (27, false)⟩,
     ⟨some 31, .p (.pick), [.t 27, .c (.bool true), .t 30], none⟩,
     ⟨some 32, .p (.mv), [.t 31], none⟩,
     ⟨some 33, .p (.faddr 3), [.t 1], some (32, false)⟩,
     ⟨some 34, .l (.load none), [.t 33], some (32, false)⟩,
     ⟨some 35, .p (.bin .geq), [.t 34, .c (.int .i64 (.ofNat 1099511627776))], some (32, false)⟩,
     ⟨some 36, .p (.pick), [.t 32, .c (.bool true), .t 35], none⟩,
     ⟨some 37, .p (.mv), [.t 36], none⟩,
     ⟨some 38, .p (.faddr 4), [.t 1], some (37, false)⟩,
     ⟨some 39, .l (.load none), [.t 38], some (37, false)⟩,
     ⟨some 40, .p (.lenL), [.t 39], some (37, false)⟩,
     ⟨some 41, .p (.bin .gtr), [.t 40, .c (.int .i64 (.ofNat 900))], some (37, false)⟩,
     ⟨some 42, .p (.pick), [.t 37, .c (.bool true), .t 41], none⟩,
     ⟨some 43, .p (.mv), [.t 42], none⟩,
     ⟨some 44, .p (.faddr 5), [.t 1], some (43, false)⟩,
     ⟨some 45, .l (.load none), [.t 44], some (43, false)⟩,
     ⟨some 46, .p (.lenL), [.t 45], some (43, false)⟩,
     ⟨some 47, .p (.bin .gtr), [.t 46, .c (.int .i64 (.ofNat 64))], some (43, false)⟩,
     ⟨some 48, .p (.pick), [.t 43, .c (.bool true), .t 47], none⟩])
   (.cond (.t 48)
    (.seq (.region [
       ⟨some 2, .p (.mv), [.c (.bool false)], none⟩])
     (.ret))
    (.skip)))
  (.seq (.seq (.region [
      ⟨some 49, .p (.faddr 4), [.t 1], none⟩,
      ⟨some 50, .l (.load none), [.t 49], none⟩,
      ⟨some 51, .p (.lenL), [.t 50], none⟩,
      ⟨some 52, .p (.mv), [.c (.int .i64 (.ofNat 0))], none⟩])
    (.block 0 (.loop (.seq (.region [
         ⟨some 53, .p (.bin .lss), [.t 52, .t 51], none⟩])
       (.seq (.cond (.t 53)
         (.skip)
         (.exit 0))
        (.seq (.block 1 (.seq (.region [
             ⟨some 54, .p (.mv), [.t 52], none⟩,
             ⟨some 55, .p (.iaddr 7), [.t 50, .t 52], none⟩,
             ⟨some 56, .l (.load (some 7)), [.t 55], none⟩,
             ⟨some 4, .i (.alloc [(1, .int .i64 (.ofNat 0)), (1, .int .i64 (.ofNat 0)), (1, .int .i64 (.ofNat 0)), (1, .int .i64 (.ofNat 0)), (1, .int .i64 (.ofNat 0)), (1, .int .i64 (.ofNat 0)), (1, .int .i64 (.ofNat 0))]), [], none⟩,
             ⟨some 3, .p (.mv), [.t 54], none⟩,
             ⟨none, .i (.store 7), [.t 4, .t 56], none⟩])
           (.seq (.draw (.q ⟨some 57, .l (.load (some 7)), [.t 4], none⟩ (.e ⟨some 58, .i (.call 161), [.t 57], none⟩ [] (.q ⟨some 59, .p (.un .not), [.t 58], none⟩ (.q ⟨some 60, .p (.mv), [.t 59], none⟩ (.q ⟨some 61, .p (.faddr 0), [.t 4], some (60, false)⟩ (.q ⟨some 62, .l (.load none), [.t 61], some (60, false)⟩ (.q ⟨some 63, .p (.faddr 2), [.t 1], some (60, false)⟩ (.q ⟨some 64, .l (.load none), [.t 63], some (60, false)⟩ (.q ⟨some 65, .p (.bin .geq), [.t 62, .t 64], some (60, false)⟩ (.q ⟨some 66, .p (.pick), [.t 60, .c (.bool true), .t 65], none⟩ (.q ⟨some 67, .p (.mv), [.t 66], none⟩ (.q ⟨some 68, .p (.faddr 5), [.t 4], some (67, false)⟩ (.q ⟨some 69, .l (.load none), [.t 68], some (67, false)⟩ (.q ⟨some 70, .p (.faddr 0), [.t 1], some (67, false)⟩ (.q ⟨some 71, .l (.load none), [.t 70], some (67, false)⟩ (.q ⟨some 72, .p (.bin .gtr), [.t 69, .t 71], some (67, false)⟩ (.q ⟨some 73, .p (.pick), [.t 67, .c (.bool true), .t 72], none⟩ (.q ⟨some 74, .p (.mv), [.t 73], none⟩ (.q ⟨some 75, .p (.mv), [.t 3], some (74, false)⟩ (.q ⟨some 76, .p (.bin .gtr), [.t 75, .c (.int .i64 (.ofNat 0))], some (74, false)⟩ (.q ⟨some 77, .p (.mv), [.t 76], some (74, false)⟩ (.q ⟨some 78, .p (.faddr 0), [.t 4], some (77, true)⟩ (.q ⟨some 79, .l (.load none), [.t 78], some (77, true)⟩ (.q ⟨some 80, .p (.faddr 4), [.t 1], some (77, true)⟩ (.q ⟨some 81, .l (.load none), [.t 80], some (77, true)⟩ (.q ⟨some 82, .p (.mv), [.t 3], some (77, true)⟩ (.q ⟨some 83, .p (.bin .sub), [.t 82, .c (.int .i64 (.ofNat 1))], some (77, true)⟩ (.q ⟨some 84, .p (.iaddr 7), [.t 81, .t 83], some (77, true)⟩ (.q ⟨some 85, .p (.faddr 0), [.t 84], some (77, true)⟩ (.q ⟨some 86, .l (.load none), [.t 85], some (77, true)⟩ (.q ⟨some 87, .p (.bin .leq), [.t 79, .t 86], some (77, true)⟩ (.q ⟨some 88, .p (.pick), [.t 77, .t 87, .c (.bool false)], some (74, false)⟩ (.q ⟨some 89, .p (.pick), [.t 74, .c (.bool true), .t 88], none⟩ (.done)))))))))))))))))))))))))))))))))))
            (.cond (.t 89)
             (.seq (.region [
                ⟨some 2, .p (.mv), [.c (.bool false)], none⟩])
              (.ret))
             (.skip)))))
         (.region [
           ⟨some 90, .p (.bin .add), [.t 52, .c (.int .i64 (.ofNat 1))], none⟩,
           ⟨some 52, .p (.mv), [.t 90], none⟩])))))))
   (.seq (.seq (.region [
       ⟨some 91, .p (.faddr 5), [.t 1], none⟩,
       ⟨some 92, .l (.load none), [.t 91], none⟩,
       ⟨some 93, .p (.lenL), [.t 92], none⟩,
       ⟨some 94, .p (.mv), [.c (.int .i64 (.ofNat 0))], none⟩])
     (.block 2 (.loop (.seq (.region [
          ⟨some 95, .p (.bin .lss), [.t 94, .t 93], none⟩])
        (.seq (.cond (.t 95)
          (.skip)
          (.exit 2))
         (.seq (.block 3 (.seq (.region [
              ⟨some 96, .p (.mv), [.t 94], none⟩,
              ⟨some 97, .p (.iaddr 8), [.t 92, .t 94], none⟩,
              ⟨some 98, .l (.load (some 8)), [.t 97], none⟩,
              ⟨some 6, .i (.alloc [(1, .int .i64 (.ofNat 0)), (1, .int .i64 (.ofNat 0)), (1, .str []), (1, .str []), (1, .list .full 1 []), (1, .list .full 5 []), (1, .int .i64 (.ofNat 0)), (1, .int .i64 (.ofNat 0))]), [], none⟩,
              ⟨some 5, .p (.mv), [.t 96], none⟩,
              ⟨none, .i (.store 8), [.t 6, .t 98], none⟩])
            (.seq (.draw (.q ⟨some 99, .l (.load (some 8)), [.t 6], none⟩ (.e ⟨some 100, .i (.call 153), [.t 99], none⟩ [] (.q ⟨some 101, .p (.un .not), [.t 100], none⟩ (.q ⟨some 102, .p (.mv), [.t 101], none⟩ (.q ⟨some 103, .p (.faddr 0), [.t 6], some (102, false)⟩ (.q ⟨some 104, .l (.load none), [.t 103], some (102, false)⟩ (.q ⟨some 105, .p (.faddr 0), [.t 1], some (102, false)⟩ (.q ⟨some 106, .l (.load none), [.t 105], some (102, false)⟩ (.q ⟨some 107, .p (.bin .gtr), [.t 104, .t 106], some (102, false)⟩ (.q ⟨some 108, .p (.pick), [.t 102, .c (.bool true), .t 107], none⟩ (.q ⟨some 109, .p (.mv), [.t 108], none⟩ (.q ⟨some 110, .p (.mv), [.t 5], some (109, false)⟩ (.q ⟨some 111, .p (.bin .gtr), [.t 110, .c (.int .i64 (.ofNat 0))], some (109, false)⟩ (.q ⟨some 112, .p (.mv), [.t 111], some (109, false)⟩ (.q ⟨some 113, .p (.faddr 0), [.t 6], some (112, true)⟩ (.q ⟨some 114, .l (.load none), [.t 113], some (112, true)⟩ (.q ⟨some 115, .p (.faddr 5), [.t 1], some (112, true)⟩ (.q ⟨some 116, .l (.load none), [.t 115], some (112, true)⟩ (.q ⟨some 117, .p (.mv), [.t 5], some (112, true)⟩ (.q ⟨some 118, .p (.bin .sub), [.t 117, .c (.int .i64 (.ofNat 1))], some (112, true)⟩ (.q ⟨some 119, .p (.iaddr 8), [.t 116, .t 118], some (112, true)⟩ (.q ⟨some 120, .p (.faddr 0), [.t 119], some (112, true)⟩ (.q ⟨some 121, .l (.load none), [.t 120], some (112, true)⟩ (.q ⟨some 122, .p (.bin .leq), [.t 114, .t 121], some (112, true)⟩ (.q ⟨some 123, .p (.pick), [.t 112, .t 122, .c (.bool false)], some (109, false)⟩ (.q ⟨some 124, .p (.pick), [.t 109, .c (.bool true), .t 123], none⟩ (.done))))))))))))))))))))))))))))
             (.cond (.t 124)
              (.seq (.region [
                 ⟨some 2, .p (.mv), [.c (.bool false)], none⟩])
               (.ret))
              (.skip)))))
          (.region [
            ⟨some 125, .p (.bin .add), [.t 94, .c (.int .i64 (.ofNat 1))], none⟩,
            ⟨some 94, .p (.mv), [.t 125], none⟩])))))))
    (.seq (.region [
       ⟨some 2, .p (.mv), [.c (.bool true)], none⟩])
     (.ret))))), 126, [.t 2]⟩

/- varve/vint.PutInt -/
def a170 : AFunc := ⟨.seq (.region [
   ⟨some 4, .p (.mv), [.c (.list .full 1 [])], none⟩])
 (.seq (.region [
    ⟨some 5, .p (.mv), [.t 0], none⟩,
    ⟨some 6, .p (.mv), [.t 1], none⟩,
    ⟨some 7, .p (.convI .u64), [.t 6], none⟩,
    ⟨some 8, .p (.bin .shl), [.t 7, .c (.int .u64 (.ofNat 1))], none⟩,
    ⟨some 9, .p (.mv), [.t 1], none⟩,
    ⟨some 10, .p (.bin .shr), [.t 9, .c (.int .u64 (.ofNat 63))], none⟩,
    ⟨some 11, .p (.convI .u64), [.t 10], none⟩,
    ⟨some 12, .p (.bin .xor), [.t 8, .t 11], none⟩,
    ⟨some 13, .i (.call 171), [.t 5, .t 12], none⟩,
    ⟨some 4, .p (.mv), [.t 13], none⟩])
  (.ret)), 14, [.t 4]⟩

/- varve/vint.Put -/
def a171 : AFunc := ⟨.seq (.region [
   ⟨some 4, .p (.mv), [.c (.list .full 1 [])], none⟩])
 (.seq (.region [
    ⟨some 5, .p (.mv), [.t 0], none⟩,
    ⟨some 6, .i (.call 235), [.t 5], none⟩,
    ⟨some 7, .p (.mv), [.t 1], none⟩,
    ⟨some 8, .i (.call 234), [.t 6, .t 7], none⟩,
    ⟨some 4, .p (.mv), [.t 8], none⟩])
  (.ret)), 9, [.t 4]⟩

/- varve/tomb.Put -/
def a172 : AFunc := ⟨.seq (.region [
   ⟨some 4, .p (.mv), [.c (.list .full 1 [])], none⟩])
 (.seq (.region [
    ⟨some 7, .p (.mv), [.t 0], none⟩,
    ⟨some 8, .p (.mv), [.t 1], none⟩,
    ⟨some 9, .p (.lenL), [.t 8], none⟩,
    ⟨some 10, .p (.convI .u64), [.t 9], none⟩,
    ⟨some 11, .i (.call 171), [.t 7, .t 10], none⟩,
    ⟨some 0, .p (.mv), [.t 11], none⟩])
  (.seq (.seq (.region [
      ⟨some 12, .p (.mv), [.t 1], none⟩,
      ⟨some 13, .p (.lenL), [.t 12], none⟩,
      ⟨some 14, .p (.mv), [.c (.int .i64 (.ofNat 0))], none⟩])
    (.block 0 (.loop (.seq (.region [
         ⟨some 15, .p (.bin .lss), [.t 14, .t 13], none⟩])
       (.seq (.cond (.t 15)
         (.skip)
         (.exit 0))
        (.seq (.block 1 (.seq (.region [
             ⟨some 16, .p (.iaddr 8), [.t 12, .t 14], none⟩,
             ⟨some 17, .l (.load (some 8)), [.t 16], none⟩,
             ⟨some 6, .i (.alloc [(1, .int .i64 (.ofNat 0)), (1, .int .i64 (.ofNat 0)), (1, .str []), (1, .str []), (1, .list .full 1 []), (1, .list .full 5 []), (1, .int .i64 (.ofNat 0)), (1, .int .i64 (.ofNat 0))]), [], none⟩,
             ⟨none, .i (.store 8), [.t 6, .t 17], none⟩])
           (.draw (.q ⟨some 18, .p (.mv), [.t 0], none⟩ (.q ⟨some 19, .p (.faddr 0), [.t 6], none⟩ (.q ⟨some 20, .l (.load none), [.t 19], none⟩ (.q ⟨some 22, .p (.faddr 6), [.t 6], none⟩ (.q ⟨some 23, .l (.load none), [.t 22], none⟩ (.q ⟨some 25, .p (.faddr 7), [.t 6], none⟩ (.q ⟨some 26, .l (.load none), [.t 25], none⟩ (.q ⟨some 28, .p (.faddr 1), [.t 6], none⟩ (.q ⟨some 29, .l (.load (some 5)), [.t 28], none⟩ (.e ⟨some 21, .i (.call 170), [.t 18, .t 20], none⟩ [⟨some 23, .l (.load none), [.t 22], none⟩, ⟨some 26, .l (.load none), [.t 25], none⟩, ⟨some 29, .l (.load (some 5)), [.t 28], none⟩] (.e ⟨some 24, .i (.call 170), [.t 21, .t 23], none⟩ [⟨some 26, .l (.load none), [.t 25], none⟩, ⟨some 29, .l (.load (some 5)), [.t 28], none⟩] (.e ⟨some 27, .i (.call 170), [.t 24, .t 26], none⟩ [⟨some 29, .l (.load (some 5)), [.t 28], none⟩] (.e ⟨some 30, .i (.call 215), [.t 27, .t 29], none⟩ [] (.e ⟨some 0, .p (.mv), [.t 30], none⟩ [] (.done))))))))))))))))))
         (.region [
           ⟨some 31, .p (.bin .add), [.t 14, .c (.int .i64 (.ofNat 1))], none⟩,
           ⟨some 14, .p (.mv), [.t 31], none⟩])))))))
   (.seq (.region [
      ⟨some 32, .p (.mv), [.t 0], none⟩,
      ⟨some 4, .p (.mv), [.t 32], none⟩])
    (.ret)))), 33, [.t 4]⟩

/- varve/vfs.named -/
def a173 : AFunc := ⟨.seq (.region [
   ⟨some 2, .p (.mv), [.c (.bool false)], none⟩])
 (.seq (.seq (.region [
     ⟨some 5, .p (.mv), [.t 0], none⟩,
     ⟨some 6, .p (.lenL), [.t 5], none⟩,
     ⟨some 7, .p (.mv), [.c (.int .i64 (.ofNat 0))], none⟩])
   (.block 0 (.loop (.seq (.region [
        ⟨some 8, .p (.bin .lss), [.t 7, .t 6], none⟩])
      (.seq (.cond (.t 8)
        (.skip)
        (.exit 0))
       (.seq (.block 1 (.seq (.region [
            ⟨some 9, .p (.iaddr 1), [.t 5, .t 7], none⟩,
            ⟨some 10, .l (.load none), [.t 9], none⟩,
            ⟨some 4, .p (.mv), [.t 10], none⟩])
          (.seq (.region [
             ⟨some 11, .p (.mv), [.t 4], none⟩,
             ⟨some 12, .p (.lenS), [.t 11], none⟩,
             ⟨some 13, .p (.bin .lss), [.t 12, .c (.int .i64 (.ofNat 1))], none⟩,
             ⟨some 14, .p (.mv), [.t 13], none⟩,
             ⟨some 15, .p (.mv), [.t 4], some (14, false)⟩,
             ⟨some 16, .p (.lenS), [.t 15], some (14, false)⟩,
             ⟨some 17, .p (.bin .gtr), [.t 16, .c (.int .i64 (.ofNat 64))], some (14, false)⟩,
             ⟨some 18, .p (.pick), [.t 14, .c (.bool true), .t 17], none⟩])
           (.cond (.t 18)
            (.seq (.region [
               ⟨some 2, .p (.mv), [.c (.bool false)], none⟩])
             (.ret))
            (.skip)))))
        (.region [
          ⟨some 19, .p (.bin .add), [.t 7, .c (.int .i64 (.ofNat 1))], none⟩,
          ⟨some 7, .p (.mv), [.t 19], none⟩])))))))
  (.seq (.region [
     ⟨some 2, .p (.mv), [.c (.bool true)], none⟩])
   (.ret))), 20, [.t 2]⟩

/- (*varve/vfs.file).append -/
def a174 : AFunc := ⟨.seq (.region [
   ⟨some 5, .p (.bsl 1 0 false [(1, .int .u8 (.ofNat 0))] []), [], none⟩,
   ⟨some 6, .p (.mv), [.t 1], none⟩,
   ⟨some 7, .i (.append 1 1), [.t 5, .t 6], none⟩,
   ⟨some 4, .p (.mv), [.t 7], none⟩])
 (.seq (.region [
    ⟨some 8, .p (.mv), [.t 0], none⟩,
    ⟨some 9, .p (.mv), [.t 0], none⟩,
    ⟨some 10, .p (.nilchk), [.t 9], none⟩,
    ⟨some 11, .p (.faddr 2), [.t 10], none⟩,
    ⟨some 12, .l (.load none), [.t 11], none⟩,
    ⟨some 13, .p (.mv), [.t 4], none⟩,
    ⟨some 14, .p (.build [(1, .bool false), (1, .int .i64 (.ofNat 0)), (1, .list .full 1 [])] [(2, 1)]), [.t 13], none⟩,
    ⟨some 15, .p (.bsl 3 1 true [(1, .bool false), (1, .int .i64 (.ofNat 0)), (1, .list .full 1 [])] [(0, 3)]), [.t 14], none⟩,
    ⟨some 16, .i (.append 3 40), [.t 12, .t 15], none⟩,
    ⟨some 17, .p (.nilchk), [.t 8], none⟩,
    ⟨some 18, .p (.faddr 2), [.t 17], none⟩,
    ⟨none, .i (.store 1), [.t 18, .t 16], none⟩])
  (.region [
    ⟨some 19, .p (.mv), [.t 0], none⟩,
    ⟨some 20, .p (.mv), [.t 0], none⟩,
    ⟨some 21, .p (.nilchk), [.t 20], none⟩,
    ⟨some 22, .p (.faddr 3), [.t 21], none⟩,
    ⟨some 23, .l (.load none), [.t 22], none⟩,
    ⟨some 24, .p (.mv), [.t 4], none⟩,
    ⟨some 25, .i (.append 1 1), [.t 23, .t 24], none⟩,
    ⟨some 26, .p (.nilchk), [.t 19], none⟩,
    ⟨some 27, .p (.faddr 3), [.t 26], none⟩,
    ⟨none, .i (.store 1), [.t 27, .t 25], none⟩])), 28, []⟩

/- (*varve/vfs.file).sync -/
def a175 : AFunc := ⟨.seq (.draw (.q ⟨some 2, .p (.mv), [.t 0], none⟩ (.q ⟨some 3, .p (.mv), [.t 0], none⟩ (.q ⟨some 4, .p (.nilchk), [.t 3], none⟩ (.q ⟨some 5, .p (.faddr 3), [.t 4], none⟩ (.q ⟨some 6, .l (.load none), [.t 5], none⟩ (.q ⟨some 7, .p (.mv), [.t 0], none⟩ (.q ⟨some 8, .p (.nilchk), [.t 7], none⟩ (.q ⟨some 9, .p (.faddr 3), [.t 8], none⟩ (.q ⟨some 10, .l (.load none), [.t 9], none⟩ (.q ⟨some 11, .p (.lenL), [.t 10], none⟩ (.q ⟨some 12, .p (.mv), [.t 0], none⟩ (.q ⟨some 13, .p (.nilchk), [.t 12], none⟩ (.q ⟨some 14, .p (.faddr 3), [.t 13], none⟩ (.q ⟨some 15, .l (.load none), [.t 14], none⟩ (.q ⟨some 16, .p (.lenL), [.t 15], none⟩ (.q ⟨some 17, .p (.slL 1 false true true), [.t 6, .t 11, .t 16], none⟩ (.q ⟨some 18, .p (.nilchk), [.t 2], none⟩ (.q ⟨some 19, .p (.faddr 1), [.t 18], none⟩ (.e ⟨none, .i (.store 1), [.t 19, .t 17], none⟩ [] (.done)))))))))))))))))))))
 (.region [
   ⟨some 20, .p (.mv), [.t 0], none⟩,
   ⟨some 21, .p (.nilchk), [.t 20], none⟩,
   ⟨some 22, .p (.faddr 2), [.t 21], none⟩,
   ⟨none, .i (.store 1), [.t 22, .c (.list .full 3 [])], none⟩]), 23, []⟩

/- varve/hist.Check -/
def a177 : AFunc := ⟨.seq (.region [
   ⟨some 2, .p (.mv), [.c (.bool false)], none⟩])
 (.seq (.region [
    ⟨some 3, .p (.mv), [.c (.int .i64 (.negSucc 0))], none⟩])
  (.seq (.seq (.region [
      ⟨some 6, .p (.mv), [.t 0], none⟩,
      ⟨some 7, .p (.lenL), [.t 6], none⟩,
      ⟨some 8, .p (.mv), [.c (.int .i64 (.ofNat 0))], none⟩])
    (.block 0 (.loop (.seq (.region [
         ⟨some 9, .p (.bin .lss), [.t 8, .t 7], none⟩])
       (.seq (.cond (.t 9)
         (.skip)
         (.exit 0))
        (.seq (.block 1 (.seq (.region [
             ⟨some 10, .p (.iaddr 2), [.t 6, .t 8], none⟩,
             ⟨some 11, .l (.load (some 2)), [.t 10], none⟩,
             ⟨some 5, .i (.alloc [(1, .int .i64 (.ofNat 0)), (1, .int .u64 (.ofNat 0))]), [], none⟩,
             ⟨none, .i (.store 2), [.t 5, .t 11], none⟩])
           (.seq (.seq (.region [
               ⟨some 12, .p (.faddr 0), [.t 5], none⟩,
               ⟨some 13, .l (.load none), [.t 12], none⟩,
               ⟨some 14, .p (.mv), [.t 3], none⟩,
               ⟨some 15, .p (.bin .leq), [.t 13, .t 14], none⟩,
               ⟨some 16, .p (.mv), [.t 15], none⟩,
               ⟨some 17, .p (.faddr 0), [.t 5], some (16, false)⟩,
               ⟨some 18, .l (.load none), [.t 17], some (16, false)⟩,
               ⟨some 19, .p (.bin .geq), [.t 18, .c (.int .i64 (.ofNat 7424))], some (16, false)⟩,
               ⟨some 20, .p (.pick), [.t 16, .c (.bool true), .t 19], none⟩,
               ⟨some 21, .p (.mv), [.t 20], none⟩,
               ⟨some 22, .p (.faddr 1), [.t 5], some (21, false)⟩,
               ⟨some 23, .l (.load none), [.t 22], some (21, false)⟩,
               ⟨some 24, .p (.bin .eql), [.t 23, .c (.int .u64 (.ofNat 0))], some (21, false)⟩,
               ⟨some 25, .p (.pick), [.t 21, .c (.bool true), .t 24], none⟩])
             (.cond (.t 25)
              (.seq (.region [
                 ⟨some 2, .p (.mv), [.c (.bool false)], none⟩])
               (.ret))
              (.skip)))
            (.region [
              ⟨some 26, .p (.faddr 0), [.t 5], none⟩,
              ⟨some 27, .l (.load none), [.t 26], none⟩,
              ⟨some 3, .p (.mv), [.t 27], none⟩]))))
         (.region [
           ⟨some 28, .p (.bin .add), [.t 8, .c (.int .i64 (.ofNat 1))], none⟩,
           ⟨some 8, .p (.mv), [.t 28], none⟩])))))))
   (.seq (.region [
      ⟨some 2, .p (.mv), [.c (.bool true)], none⟩])
    (.ret)))), 29, [.t 2]⟩

end Go.Am.Tab
