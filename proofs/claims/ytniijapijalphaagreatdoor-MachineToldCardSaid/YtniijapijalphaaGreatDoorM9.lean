import Derived.Test.YtniijapijalphaaGreatDoorM4
import Derived.Test.YtniijapijalphaaGreatDoorM8
/- A run of one call that the law's own example makes: isochron/machine.linked. Its heaps were printed by a program of ours (tools/dump.lean, gen.py). -/
namespace Go.Proofs.YtniijapijalphaaGreatDoor.Zr
open Go Go.RowKit Eng
def a5 : List AV := [(.ptr 2113 0), (.agg [(.sl 2109 0 1 (.ex 1)), (.int .i64 (.ofNat 1)), (.int .i64 (.ofNat 0)), (.int .i64 (.ofNat 4)), (.int .i64 (.ofNat 1)), (.sl 2110 0 1 (.ex 1))])]
def v5 : AV := (.int .i64 (.ofNat 0))
def i5_0 : List (Nat × AO) := [(2113, .row 72 0 [.nils, .nils, .nils, (.int .i64 (.ofNat 0)), .nils, .nils, (.int .i64 (.ofNat 0)), (.int .i64 (.ofNat 0)), (.int .i64 (.ofNat 0))]),
  (2109, .row 58 5 [(.str ⟨#[117]⟩), (.sl 2104 0 1 (.ex 1)), .nils, .nils, (.sl 2107 0 1 (.ex 1))]),
  (2104, .row 9 1 [(.str ⟨#[116, 105, 99, 107]⟩)]),
  (2107, .row 53 7 [(.int .i64 (.ofNat 0)), (.int .i64 (.negSucc 0)), (.sl 2105 0 1 (.ex 1)), .nils, (.int .i64 (.ofNat 0)), (.int .i64 (.negSucc 0)), (.sl 2106 0 2 (.ex 2))]),
  (2105, .row 47 2 [(.int .i64 (.ofNat 1)), (.int .i64 (.negSucc 0))]),
  (2106, .row 50 3 [(.int .i64 (.ofNat 2)), (.int .i64 (.ofNat 0)), (.int .i64 (.ofNat 0)), (.int .i64 (.ofNat 27)), (.int .i64 (.ofNat 1)), (.int .i64 (.ofNat 0))])]
def i5_1 : List (Nat × AO) := [(2110, .row 62 6 [(.str ⟨#[117, 46, 116, 105, 99, 107]⟩), (.int .i64 (.ofNat 0)), (.int .i64 (.ofNat 3)), (.int .i64 (.ofNat 0)), (.int .i64 (.ofNat 10)), (.int .i64 (.ofNat 0))]),
  (2112, .row 38 0 [(.sl 2109 0 1 (.ex 1)), (.int .i64 (.ofNat 1)), (.int .i64 (.ofNat 0)), (.int .i64 (.ofNat 4)), (.int .i64 (.ofNat 1)), (.sl 2110 0 1 (.ex 1))]),
  (2114, .row 75 1 [(.func 10 [] []), (.func 11 [] []), (.func 12 [] []), (.func 13 [] []), (.func 14 [] []), (.func 15 [] [])])]
def i5 : List (Nat × AO) := i5_0 ++ (i5_1)
def o5_0 : List (Nat × AO) := [(2113, .row 72 0 [.nils, .nils, (.sl 2285 0 1 (.sk 0 1)), (.int .i64 (.ofNat 0)), .nils, .nils, (.int .i64 (.ofNat 0)), (.int .i64 (.ofNat 0)), (.int .i64 (.ofNat 0))]),
  (2285, .row 83 7 [(.str ⟨#[117, 46, 116, 105, 99, 107]⟩), (.int .i64 (.negSucc 0)), (.sl 2271 0 1 (.sk 0 1)), .nils, (.int .i64 (.ofNat 0)), (.int .i64 (.ofNat 0)), (.sl 2283 0 2 (.sk 0 2))]),
  (2271, .row 81 2 [(.int .i64 (.ofNat 1)), (.int .i64 (.ofNat 0))]),
  (2283, .row 50 3 [(.int .i64 (.ofNat 2)), (.int .i64 (.ofNat 0)), (.int .i64 (.ofNat 0)), (.int .i64 (.ofNat 27)), (.int .i64 (.ofNat 1)), (.int .i64 (.ofNat 0))]),
  (2109, .row 58 5 [(.str ⟨#[117]⟩), (.sl 2104 0 1 (.ex 1)), .nils, .nils, (.sl 2107 0 1 (.ex 1))]),
  (2104, .row 9 1 [(.str ⟨#[116, 105, 99, 107]⟩)])]
def o5_1 : List (Nat × AO) := [(2107, .row 53 7 [(.int .i64 (.ofNat 0)), (.int .i64 (.negSucc 0)), (.sl 2105 0 1 (.ex 1)), .nils, (.int .i64 (.ofNat 0)), (.int .i64 (.negSucc 0)), (.sl 2106 0 2 (.ex 2))]),
  (2105, .row 47 2 [(.int .i64 (.ofNat 1)), (.int .i64 (.negSucc 0))]),
  (2106, .row 50 3 [(.int .i64 (.ofNat 2)), (.int .i64 (.ofNat 0)), (.int .i64 (.ofNat 0)), (.int .i64 (.ofNat 27)), (.int .i64 (.ofNat 1)), (.int .i64 (.ofNat 0))]),
  (2110, .row 62 6 [(.str ⟨#[117, 46, 116, 105, 99, 107]⟩), (.int .i64 (.ofNat 0)), (.int .i64 (.ofNat 3)), (.int .i64 (.ofNat 0)), (.int .i64 (.ofNat 10)), (.int .i64 (.ofNat 0))]),
  (2112, .row 38 0 [(.sl 2109 0 1 (.ex 1)), (.int .i64 (.ofNat 1)), (.int .i64 (.ofNat 0)), (.int .i64 (.ofNat 4)), (.int .i64 (.ofNat 1)), (.sl 2110 0 1 (.ex 1))]),
  (2114, .row 75 1 [(.func 10 [] []), (.func 11 [] []), (.func 12 [] []), (.func 13 [] []), (.func 14 [] []), (.func 15 [] [])])]
def o5 : List (Nat × AO) := o5_0 ++ (o5_1)
def d5 : Done := ⟨10, a5, i5, 2115, v5, o5, 2417⟩
theorem r5 : chk (runO Tryz.prog (orc []) 1000000 (.call 10 a5) ⟨mkT i5, 2115, []⟩) v5 o5 2417 = true := by kernel_rfl
theorem d5_ok : d5.ok Tryz.prog := done_ok follows orc_nil r5
end Go.Proofs.YtniijapijalphaaGreatDoor.Zr
