/-
  Plain functions on reservations: what package reserve and its reference compute. No program is named here.
-/
import GoSem.Core.World
import Derived.Test.YtcaicdjlfgpbfaaPIdent
namespace Go.Proofs.Ytcaicdjlfgpbfaa

structure Resv where
  id : Int
  conn : Int
  token : ByteArray
  group : ByteArray
  expiry : Int

def Resv.cells (r : Resv) : List Value := [.int .i64 r.id, .int .i64 r.conn, .string r.token, .string r.group, .int .i64 r.expiry]

structure Tok where
  id : ByteArray
  group : ByteArray
  contract : ByteArray
  kind : Int
  status : Int
  expiry : Int

def Tok.cells (t : Tok) : List Value := [.string t.id, .string t.group, .string t.contract, .int .i64 t.kind, .int .i64 t.status, .int .i64 t.expiry]

theorem Resv.cells_len (r : Resv) : r.cells.length = 5 := rfl
theorem Tok.cells_len (t : Tok) : t.cells.length = 6 := rfl

def Resv.ok (r : Resv) : Prop := r.token.size ≤ 4096 ∧ r.group.size ≤ 4096
def Tok.ok (t : Tok) : Prop := t.id.size ≤ 4096 ∧ t.group.size ≤ 4096

def validR (r : Resv) : Int :=
  if r.id < 1 ∨ 2147483647 < r.id ∨ r.conn < 1 ∨ 32 < r.conn then 2
  else if (!validL r.token.data.toList || (!r.group.toList.isEmpty && !validL r.group.data.toList)) = true then 4
  else if r.expiry < 0 ∨ 268435456 < r.expiry then 2 else 0

end Go.Proofs.Ytcaicdjlfgpbfaa
