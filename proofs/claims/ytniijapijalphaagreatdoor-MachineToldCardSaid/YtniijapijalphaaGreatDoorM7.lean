import Derived.Test.YtniijapijalphaaGreatDoorM4
import Derived.Test.YtniijapijalphaaGreatDoorM6
/- A run of one call that the law's own example makes: isochron/machine.timed. Its heaps were printed by a program of ours (tools/dump.lean, gen.py). -/
namespace Go.Proofs.YtniijapijalphaaGreatDoor.Zr
open Go Go.RowKit Eng
def a3 : List AV := [(.ptr 10 0), (.agg [(.sl 6 0 1 (.ex 1)), (.int .i64 (.ofNat 1)), (.int .i64 (.ofNat 0)), (.int .i64 (.ofNat 4)), (.int .i64 (.ofNat 1)), (.sl 7 0 1 (.ex 1))])]
def v3 : AV := (.int .i64 (.ofNat 0))
def i3_0 : List (Nat × AO) := [(10, .row 72 0 [.nils, .nils, (.sl 182 0 1 (.sk 0 1)), (.int .i64 (.ofNat 0)), (.sl 318 0 1 (.sk 0 1)), .nils, (.int .i64 (.ofNat 0)), (.int .i64 (.ofNat 0)), (.int .i64 (.ofNat 0))]),
  (182, .row 83 7 [(.str ⟨#[117, 46, 116, 105, 99, 107]⟩), (.int .i64 (.negSucc 0)), (.sl 168 0 1 (.sk 0 1)), .nils, (.int .i64 (.ofNat 0)), (.int .i64 (.ofNat 0)), (.sl 180 0 2 (.sk 0 2))]),
  (168, .row 81 2 [(.int .i64 (.ofNat 1)), (.int .i64 (.ofNat 0))]),
  (180, .row 50 3 [(.int .i64 (.ofNat 2)), (.int .i64 (.ofNat 0)), (.int .i64 (.ofNat 0)), (.int .i64 (.ofNat 27)), (.int .i64 (.ofNat 1)), (.int .i64 (.ofNat 0))]),
  (318, .row 3 1 [(.int .i64 (.ofNat 0))]),
  (6, .row 58 5 [(.str ⟨#[117]⟩), (.sl 1 0 1 (.ex 1)), .nils, .nils, (.sl 4 0 1 (.ex 1))])]
def i3_1 : List (Nat × AO) := [(1, .row 9 1 [(.str ⟨#[116, 105, 99, 107]⟩)]),
  (4, .row 53 7 [(.int .i64 (.ofNat 0)), (.int .i64 (.negSucc 0)), (.sl 2 0 1 (.ex 1)), .nils, (.int .i64 (.ofNat 0)), (.int .i64 (.negSucc 0)), (.sl 3 0 2 (.ex 2))]),
  (2, .row 47 2 [(.int .i64 (.ofNat 1)), (.int .i64 (.negSucc 0))]),
  (3, .row 50 3 [(.int .i64 (.ofNat 2)), (.int .i64 (.ofNat 0)), (.int .i64 (.ofNat 0)), (.int .i64 (.ofNat 27)), (.int .i64 (.ofNat 1)), (.int .i64 (.ofNat 0))]),
  (7, .row 62 6 [(.str ⟨#[117, 46, 116, 105, 99, 107]⟩), (.int .i64 (.ofNat 0)), (.int .i64 (.ofNat 4)), (.int .i64 (.ofNat 0)), (.int .i64 (.ofNat 10)), (.int .i64 (.ofNat 0))]),
  (9, .row 38 0 [(.sl 6 0 1 (.ex 1)), (.int .i64 (.ofNat 1)), (.int .i64 (.ofNat 0)), (.int .i64 (.ofNat 4)), (.int .i64 (.ofNat 1)), (.sl 7 0 1 (.ex 1))])]
def i3_2 : List (Nat × AO) := [(11, .row 75 1 [(.func 10 [] []), (.func 11 [] []), (.func 12 [] []), (.func 13 [] []), (.func 14 [] []), (.func 15 [] [])])]
def i3 : List (Nat × AO) := i3_0 ++ (i3_1 ++ (i3_2))
def o3_0 : List (Nat × AO) := [(10, .row 72 0 [.nils, .nils, (.sl 182 0 1 (.sk 0 1)), (.int .i64 (.ofNat 0)), (.sl 318 0 1 (.sk 0 1)), (.sl 816 0 1 (.sk 0 1)), (.int .i64 (.ofNat 0)), (.int .i64 (.ofNat 0)), (.int .i64 (.ofNat 0))]),
  (182, .row 83 7 [(.str ⟨#[117, 46, 116, 105, 99, 107]⟩), (.int .i64 (.negSucc 0)), (.sl 168 0 1 (.sk 0 1)), .nils, (.int .i64 (.ofNat 0)), (.int .i64 (.ofNat 0)), (.sl 180 0 2 (.sk 0 2))]),
  (168, .row 81 2 [(.int .i64 (.ofNat 1)), (.int .i64 (.ofNat 0))]),
  (180, .row 50 3 [(.int .i64 (.ofNat 2)), (.int .i64 (.ofNat 0)), (.int .i64 (.ofNat 0)), (.int .i64 (.ofNat 27)), (.int .i64 (.ofNat 1)), (.int .i64 (.ofNat 0))]),
  (318, .row 3 1 [(.int .i64 (.ofNat 0))]),
  (816, .row 96 6 [(.int .i64 (.ofNat 0)), (.int .i64 (.ofNat 4)), (.int .i64 (.ofNat 0)), (.int .i64 (.ofNat 10)), (.int .i64 (.ofNat 0)), (.sl 814 0 1 (.sk 0 1))])]
def o3_1 : List (Nat × AO) := [(814, .row 101 2 [(.int .i64 (.ofNat 3)), (.int .i64 (.negSucc 0))]),
  (6, .row 58 5 [(.str ⟨#[117]⟩), (.sl 1 0 1 (.ex 1)), .nils, .nils, (.sl 4 0 1 (.ex 1))]),
  (1, .row 9 1 [(.str ⟨#[116, 105, 99, 107]⟩)]),
  (4, .row 53 7 [(.int .i64 (.ofNat 0)), (.int .i64 (.negSucc 0)), (.sl 2 0 1 (.ex 1)), .nils, (.int .i64 (.ofNat 0)), (.int .i64 (.negSucc 0)), (.sl 3 0 2 (.ex 2))]),
  (2, .row 47 2 [(.int .i64 (.ofNat 1)), (.int .i64 (.negSucc 0))]),
  (3, .row 50 3 [(.int .i64 (.ofNat 2)), (.int .i64 (.ofNat 0)), (.int .i64 (.ofNat 0)), (.int .i64 (.ofNat 27)), (.int .i64 (.ofNat 1)), (.int .i64 (.ofNat 0))])]
def o3_2 : List (Nat × AO) := [(7, .row 62 6 [(.str ⟨#[117, 46, 116, 105, 99, 107]⟩), (.int .i64 (.ofNat 0)), (.int .i64 (.ofNat 4)), (.int .i64 (.ofNat 0)), (.int .i64 (.ofNat 10)), (.int .i64 (.ofNat 0))]),
  (9, .row 38 0 [(.sl 6 0 1 (.ex 1)), (.int .i64 (.ofNat 1)), (.int .i64 (.ofNat 0)), (.int .i64 (.ofNat 4)), (.int .i64 (.ofNat 1)), (.sl 7 0 1 (.ex 1))]),
  (11, .row 75 1 [(.func 10 [] []), (.func 11 [] []), (.func 12 [] []), (.func 13 [] []), (.func 14 [] []), (.func 15 [] [])])]
def o3 : List (Nat × AO) := o3_0 ++ (o3_1 ++ (o3_2))
def d3 : Done := ⟨13, a3, i3, 439, v3, o3, 917⟩
theorem r3 : chk (runO Tryz.prog (orc []) 1000000 (.call 13 a3) ⟨mkT i3, 439, []⟩) v3 o3 917 = true := by kernel_rfl
theorem d3_ok : d3.ok Tryz.prog := done_ok follows orc_nil r3
end Go.Proofs.YtniijapijalphaaGreatDoor.Zr
