/- Runs of the program: awake(), the config, a new engine. -/
import Derived.Test.YteinffefhcpcmaaGreatDoorVtRun
namespace Go.Am.Tab
open Go.Am Go.Proofs
set_option maxRecDepth 100000

/-- From where on the names are free for awake(). -/
def top : Nat := 1048576

theorem awake_run : isTrue (xcall tab prim 100000 100 12 [] .leaf top) = true := by kernel_rfl

def isConf : Option (List (AVal × Hp × Nat)) → Bool
  | some [(v, _, b)] => veq v (.agg [.int .i64 1, .int .i64 1, .int .i64 1, .int .i64 1, .int .i64 1]) && Nat.ble b 1000
  | _ => false

theorem conf_run : isConf (xcall tab prim 100000 100 7 [.int .i64 1, .list .full 1 []] .leaf 0) = true := by kernel_rfl

def conf1 : AVal := .agg [.int .i64 1, .int .i64 1, .int .i64 1, .int .i64 1, .int .i64 1]

/-- What a new engine is. -/
def isOpen : Option (List (AVal × Hp × Nat)) → Bool
  | some [(.tup [.ref ko vo 0, .bool true], h, b)] => Nat.ble b top && match objAt h ko vo with
    | some (.cells [_, .ref ke ve 0, _]) => !keyEq ko ke && match objAt h ke ve with
      | some (.cells [_, _, _, _, _, _, .int .i64 (.ofNat n), _, _, .bool false, .bool false]) => Nat.beq n 0
      | _ => false
    | _ => false
  | _ => false

theorem open_run : isOpen (xcall tab prim 100000 100 6 [conf1, .int .i64 0] .leaf 1000) = true := by kernel_rfl

end Go.Am.Tab
