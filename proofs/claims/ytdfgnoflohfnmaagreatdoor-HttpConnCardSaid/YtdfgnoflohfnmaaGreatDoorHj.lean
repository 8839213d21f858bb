/- HTTP: strings.SplitSeq's value. -/
import Derived.Test.YtdfgnoflohfnmaaGreatDoorHi
namespace Go.Proofs.YtdfgnoflohfnmaaGreatDoor.Hx
open Go.RowKit Go.Maps Go.Shelf

abbrev sqW (w : World) (s sep : ByteArray) : World := ((w.alloc (.cells #[.string s] 9 (0, 0))).alloc (.cells #[.string sep] 9 (0, 0))).alloc (.cells #[.int .i64 0] 3 (0, 0))
abbrev sqV (n : Nat) : Value := .func (.func 99) #[] #[.pointer (some ⟨n + 1, 0, none⟩), .pointer (some ⟨n, 0, none⟩), .pointer (some ⟨n + 2, 0, none⟩)]
theorem split_make0 (s sep : ByteArray) (w : World) : Calls Tryz.prog 75 #[.string s, .string sep, .int .i64 0] w fun e w' => e = .returned (sqV w.heap.size) ∧ w' = sqW w s sep := by
  go_enter Tryz.func75, Tryz.ntmps75
  go_wp2_with fail
  go_ret
  exact ⟨rfl, rfl⟩
theorem split_make (s sep : ByteArray) (w : World) : Calls Tryz.prog 42 #[.string s, .string sep] w fun e w' => e = .returned (sqV w.heap.size) ∧ w' = sqW w s sep := by
  have hm := fun W => Lib.hid (split_make0 s sep W)
  go_enter Tryz.func42, Tryz.ntmps42
  go_wp2_with (first
    | (go_at_call 75; refine ((hm _).out).mono ?_; rintro e w1 ⟨rfl, rfl⟩))
  go_ret
  exact ⟨rfl, rfl⟩
end Go.Proofs.YtdfgnoflohfnmaaGreatDoor.Hx
