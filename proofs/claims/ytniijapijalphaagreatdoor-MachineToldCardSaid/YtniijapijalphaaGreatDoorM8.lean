import Derived.Test.YtniijapijalphaaGreatDoorM4
import Derived.Test.YtniijapijalphaaGreatDoorM7
/- A run of one call that the law's own example makes: isochron/machine.timed. Its heaps were printed by a program of ours (tools/dump.lean, gen.py). -/
namespace Go.Proofs.YtniijapijalphaaGreatDoor.Zr
open Go Go.RowKit Eng
def a4 : List AV := [(.ptr 2113 0), (.agg [(.sl 2109 0 1 (.ex 1)), (.int .i64 (.ofNat 1)), (.int .i64 (.ofNat 0)), (.int .i64 (.ofNat 4)), (.int .i64 (.ofNat 1)), (.sl 2110 0 1 (.ex 1))])]
def v4 : AV := (.int .i64 (.ofNat 15))
def i4_0 : List (Nat × AO) := [(2113, .row 72 0 [.nils, .nils, (.sl 2285 0 1 (.sk 0 1)), (.int .i64 (.ofNat 0)), (.sl 2421 0 1 (.sk 0 1)), .nils, (.int .i64 (.ofNat 0)), (.int .i64 (.ofNat 0)), (.int .i64 (.ofNat 0))]),
  (2285, .row 83 7 [(.str ⟨#[117, 46, 116, 105, 99, 107]⟩), (.int .i64 (.negSucc 0)), (.sl 2271 0 1 (.sk 0 1)), .nils, (.int .i64 (.ofNat 0)), (.int .i64 (.ofNat 0)), (.sl 2283 0 2 (.sk 0 2))]),
  (2271, .row 81 2 [(.int .i64 (.ofNat 1)), (.int .i64 (.ofNat 0))]),
  (2283, .row 50 3 [(.int .i64 (.ofNat 2)), (.int .i64 (.ofNat 0)), (.int .i64 (.ofNat 0)), (.int .i64 (.ofNat 27)), (.int .i64 (.ofNat 1)), (.int .i64 (.ofNat 0))]),
  (2421, .row 3 1 [(.int .i64 (.ofNat 0))]),
  (2109, .row 58 5 [(.str ⟨#[117]⟩), (.sl 2104 0 1 (.ex 1)), .nils, .nils, (.sl 2107 0 1 (.ex 1))])]
def i4_1 : List (Nat × AO) := [(2104, .row 9 1 [(.str ⟨#[116, 105, 99, 107]⟩)]),
  (2107, .row 53 7 [(.int .i64 (.ofNat 0)), (.int .i64 (.negSucc 0)), (.sl 2105 0 1 (.ex 1)), .nils, (.int .i64 (.ofNat 0)), (.int .i64 (.negSucc 0)), (.sl 2106 0 2 (.ex 2))]),
  (2105, .row 47 2 [(.int .i64 (.ofNat 1)), (.int .i64 (.negSucc 0))]),
  (2106, .row 50 3 [(.int .i64 (.ofNat 2)), (.int .i64 (.ofNat 0)), (.int .i64 (.ofNat 0)), (.int .i64 (.ofNat 27)), (.int .i64 (.ofNat 1)), (.int .i64 (.ofNat 0))]),
  (2110, .row 62 6 [(.str ⟨#[117, 46, 116, 105, 99, 107]⟩), (.int .i64 (.ofNat 0)), (.int .i64 (.ofNat 3)), (.int .i64 (.ofNat 0)), (.int .i64 (.ofNat 10)), (.int .i64 (.ofNat 0))]),
  (2112, .row 38 0 [(.sl 2109 0 1 (.ex 1)), (.int .i64 (.ofNat 1)), (.int .i64 (.ofNat 0)), (.int .i64 (.ofNat 4)), (.int .i64 (.ofNat 1)), (.sl 2110 0 1 (.ex 1))])]
def i4_2 : List (Nat × AO) := [(2114, .row 75 1 [(.func 10 [] []), (.func 11 [] []), (.func 12 [] []), (.func 13 [] []), (.func 14 [] []), (.func 15 [] [])])]
def i4 : List (Nat × AO) := i4_0 ++ (i4_1 ++ (i4_2))
def o4_0 : List (Nat × AO) := [(2113, .row 72 0 [.nils, .nils, (.sl 2285 0 1 (.sk 0 1)), (.int .i64 (.ofNat 0)), (.sl 2421 0 1 (.sk 0 1)), (.sl 2919 0 1 (.sk 0 1)), (.int .i64 (.ofNat 0)), (.int .i64 (.ofNat 0)), (.int .i64 (.ofNat 0))]),
  (2285, .row 83 7 [(.str ⟨#[117, 46, 116, 105, 99, 107]⟩), (.int .i64 (.negSucc 0)), (.sl 2271 0 1 (.sk 0 1)), .nils, (.int .i64 (.ofNat 0)), (.int .i64 (.ofNat 0)), (.sl 2283 0 2 (.sk 0 2))]),
  (2271, .row 81 2 [(.int .i64 (.ofNat 1)), (.int .i64 (.ofNat 0))]),
  (2283, .row 50 3 [(.int .i64 (.ofNat 2)), (.int .i64 (.ofNat 0)), (.int .i64 (.ofNat 0)), (.int .i64 (.ofNat 27)), (.int .i64 (.ofNat 1)), (.int .i64 (.ofNat 0))]),
  (2421, .row 3 1 [(.int .i64 (.ofNat 0))]),
  (2919, .row 96 6 [(.int .i64 (.ofNat 0)), (.int .i64 (.ofNat 3)), (.int .i64 (.ofNat 0)), (.int .i64 (.ofNat 10)), (.int .i64 (.ofNat 0)), (.sl 2917 0 1 (.sk 0 1))])]
def o4_1 : List (Nat × AO) := [(2917, .row 101 2 [(.int .i64 (.ofNat 3)), (.int .i64 (.negSucc 0))]),
  (2109, .row 58 5 [(.str ⟨#[117]⟩), (.sl 2104 0 1 (.ex 1)), .nils, .nils, (.sl 2107 0 1 (.ex 1))]),
  (2104, .row 9 1 [(.str ⟨#[116, 105, 99, 107]⟩)]),
  (2107, .row 53 7 [(.int .i64 (.ofNat 0)), (.int .i64 (.negSucc 0)), (.sl 2105 0 1 (.ex 1)), .nils, (.int .i64 (.ofNat 0)), (.int .i64 (.negSucc 0)), (.sl 2106 0 2 (.ex 2))]),
  (2105, .row 47 2 [(.int .i64 (.ofNat 1)), (.int .i64 (.negSucc 0))]),
  (2106, .row 50 3 [(.int .i64 (.ofNat 2)), (.int .i64 (.ofNat 0)), (.int .i64 (.ofNat 0)), (.int .i64 (.ofNat 27)), (.int .i64 (.ofNat 1)), (.int .i64 (.ofNat 0))])]
def o4_2 : List (Nat × AO) := [(2110, .row 62 6 [(.str ⟨#[117, 46, 116, 105, 99, 107]⟩), (.int .i64 (.ofNat 0)), (.int .i64 (.ofNat 3)), (.int .i64 (.ofNat 0)), (.int .i64 (.ofNat 10)), (.int .i64 (.ofNat 0))]),
  (2112, .row 38 0 [(.sl 2109 0 1 (.ex 1)), (.int .i64 (.ofNat 1)), (.int .i64 (.ofNat 0)), (.int .i64 (.ofNat 4)), (.int .i64 (.ofNat 1)), (.sl 2110 0 1 (.ex 1))]),
  (2114, .row 75 1 [(.func 10 [] []), (.func 11 [] []), (.func 12 [] []), (.func 13 [] []), (.func 14 [] []), (.func 15 [] [])])]
def o4 : List (Nat × AO) := o4_0 ++ (o4_1 ++ (o4_2))
def d4 : Done := ⟨13, a4, i4, 2542, v4, o4, 3020⟩
theorem r4 : chk (runO Tryz.prog (orc []) 1000000 (.call 13 a4) ⟨mkT i4, 2542, []⟩) v4 o4 3020 = true := by kernel_rfl
theorem d4_ok : d4.ok Tryz.prog := done_ok follows orc_nil r4
end Go.Proofs.YtniijapijalphaaGreatDoor.Zr
