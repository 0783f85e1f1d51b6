import Derived.Test.YtdjkoljonlcemaaGreatM6
import Derived.Test.YtdjkoljonlcemaaGreatProg
import Derived.WalkKit
/- A runner: what the runs of this claim give: the empty collectors, and the law's own example. -/
namespace Go.Proofs.YtdjkoljonlcemaaGreat.Zr
open Go Go.RowKit Eng
def okB:Option Res->Bool
 | some (.val (.bool true) _)=>true
 | _=>false
theorem okB_of {r:Option Res} (h:okB r=true):∃ h',r=some (.val (.bool true) h'):=by
 unfold okB at h
 split at h
 ·exact ⟨_,rfl⟩
 ·cases h
def okP:Option Res->Bool
 | some (.val (.tup [.ptr _ _,.int .i64 n]) _)=>n == 0
 | _=>false
theorem okP_of {r:Option Res} (h:okP r=true):∃ b o h',r=some (.val (.tup [.ptr b o,.int .i64 0]) h'):=by
 unfold okP at h
 split at h
 ·rename_i b o n h'
  obtain rfl:n=0:=by simpa using h
  exact ⟨b,o,h',rfl⟩
 ·cases h
theorem run_cyc:okP (runQ Tryz.prog 100000 (.call 27 [.int .i64 2,.int .i64 0]) ⟨.nil,0,[]⟩)=true:=by kernel_rfl
theorem run_r14:okP (runQ Tryz.prog 100000 (.call 33 [.int .i64 2,.int .i64 0]) ⟨.nil,0,[]⟩)=true:=by kernel_rfl
theorem run_sane:okB (runQ Tryz.prog 100000 (.call 5 []) ⟨.nil,0,[]⟩)=true:=by kernel_rfl
theorem follows:Tryz.prog.follows .mixedOrders=true:=by kernel_rfl
theorem ptr_of {f:FuncId} (hr:okP (runQ Tryz.prog 100000 (.call f [.int .i64 2,.int .i64 0]) ⟨.nil,0,[]⟩)=true) (w:World):Ret Tryz.prog f #[.int .i64 2,.int .i64 0] w fun v w'=>(∃ b o,v = .tuple #[.pointer (some ⟨b,o,none⟩),.int .i64 0])/\Bl w w':=by
 obtain ⟨b,o,h',hq⟩:=okP_of (by have h:=hr;rw [runQ_eq] at h;exact h)
 refine (run_ret follows hq (xs:=[.int .i64 2,.int .i64 0]) (.cons (.int _ _) (.cons (.int _ _) .nil)) w).mono ?_
 rintro v w' ⟨⟨R,_,hv⟩,hB⟩
 cases hv with
 | tup hv =>
  cases hv with
  | cons h1 h2 =>
   cases h2 with
   | cons h3 h4 =>
    cases h4
    cases h1 with
    | ptr o h =>
     cases h3
     exact ⟨⟨_,_,rfl⟩,hB⟩
theorem k_cyc (w:World):Ret Tryz.prog 27 #[.int .i64 2,.int .i64 0] w fun v w'=>(∃ b o,v = .tuple #[.pointer (some ⟨b,o,none⟩),.int .i64 0])/\Bl w w':=ptr_of run_cyc w
theorem k_r14 (w:World):Ret Tryz.prog 33 #[.int .i64 2,.int .i64 0] w fun v w'=>(∃ b o,v = .tuple #[.pointer (some ⟨b,o,none⟩),.int .i64 0])/\Bl w w':=ptr_of run_r14 w
theorem k_sane18 (w:World):Ret Tryz.prog 5 #[] w fun v w'=>v = .bool true/\Bl w w':=by
 obtain ⟨h',hq⟩:=okB_of (by have h:=run_sane;rw [runQ_eq] at h;exact h)
 refine (run_ret follows hq (xs:=[]) .nil w).mono ?_
 rintro v w' ⟨⟨R,_,hv⟩,hB⟩
 cases hv
 exact ⟨rfl,hB⟩
end Go.Proofs.YtdjkoljonlcemaaGreat.Zr
