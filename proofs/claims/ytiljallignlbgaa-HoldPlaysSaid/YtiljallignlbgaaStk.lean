/- What a stock is (Stk), and an order. Conditions: none beyond what each theorem states. -/
import Derived.Test.YtiljallignlbgaaMem
namespace Go.Proofs.Ytiljallignlbgaa
open Go.RowKit
structure Stk where
  code : Int
  id : Int
  free : Int
  held : Int
  used : Int
def Stk.cells (s : Stk) : List Value := [.int .i64 s.code, .int .i64 s.id, .int .i64 s.free, .int .i64 s.held, .int .i64 s.used]
theorem Stk.cells_len (s : Stk) : s.cells.length = 5 := rfl
def Stk.val (s : Stk) : Value := .agg #[.int .i64 s.code, .int .i64 s.id, .int .i64 s.free, .int .i64 s.held, .int .i64 s.used]
def Stk.none : Stk := ⟨0, 0, 0, 0, 0⟩
structure Ordr where
  kind : Int
  count : Int
  life : Int
  id : Int
def Ordr.cells (o : Ordr) : List Value := [.int .i64 o.kind, .int .i64 o.count, .int .i64 o.life, .int .i64 o.id]
theorem Ordr.cells_len (o : Ordr) : o.cells.length = 4 := rfl
def Ordr.val (o : Ordr) : Value := .agg #[.int .i64 o.kind, .int .i64 o.count, .int .i64 o.life, .int .i64 o.id]
end Go.Proofs.Ytiljallignlbgaa
