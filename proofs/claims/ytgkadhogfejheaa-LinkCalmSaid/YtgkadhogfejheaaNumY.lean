/- The walks of package nums: small ones. -/
import Derived.Test.YtgkadhogfejheaaNumX
namespace Go.Proofs.Ytgkadhogfejheaa
open Go.RowKit

namespace Num
theorem str_cat (a : List UInt8) (s : ByteArray) : Mem.str a ++ s = Mem.str (a ++ s.data.toList) := by
  apply ByteArray.ext
  simp [Mem.str]
end Num

theorem nums_Read (s : ByteArray) (w : World) :
    Calls Try.prog 52 #[.string s] w fun e w' => e = .returned (.pointer (some ⟨w.heap.size, 0, none⟩)) ∧ Num.Rd w' w.heap.size s.data.toList 0 ∧ Below w.heap.size w w' := by
  go_enter Try.func52, Try.ntmps52
  go_wp2_with (
    refine Mem.wpList_box rfl 134 _ rfl (.agg #[.string s, .int .i64 0]) rfl ?_
    intro w1 hn1
    have Hn1 := Lib.hid hn1
    clear hn1)
  go_ret
  refine ⟨rfl, ?_, Hn1.out.below⟩
  have := Hn1.out.row
  unfold Num.Rd
  rw [Mem.str_of]; exact this

theorem nums_Left (g : Nat) (l : List UInt8) (f : Int) (w : World) (hrd : Num.Rd w g l f) :
    Calls Try.prog 55 #[.pointer (some ⟨g, 0, none⟩)] w fun e w' => e = .returned (.int .i64 l.length) ∧ w = w' := by
  have h0 := hrd.rest
  have hsz := Mem.str_size l
  clear hrd
  go_enter Try.func55, Try.ntmps55
  go_wp2
  go_ret
  exact ⟨rfl, rfl⟩

theorem nums_Fault (g : Nat) (l : List UInt8) (f : Int) (w : World) (hrd : Num.Rd w g l f) :
    Calls Try.prog 54 #[.pointer (some ⟨g, 0, none⟩)] w fun e w' => e = .returned (.int .i64 f) ∧ w = w' := by
  have h0 := hrd.fault
  clear hrd
  go_enter Try.func54, Try.ntmps54
  go_wp2
  go_ret
  exact ⟨rfl, rfl⟩

theorem nums_puttext (s : ByteArray) (hs : s.size < 2 ^ 62) (w : World) :
    Calls Try.prog 47 #[.string s] w fun e w' => e = .returned (.string (Mem.str (Num.put s.size ++ s.data.toList))) ∧ Below w.heap.size w w' := by
  have Hs := Lib.hid hs
  have hw : IntKind.u64.wrap (s.size : Int) = (s.size : Int) := by rw [IntKind.wrap_u64]; omega
  have hcat : ¬ 9223372036854775807 < (Mem.str (Num.put s.size)).size + s.size := by
    rw [Mem.str_size]; have := Num.put_ten (n := s.size) (by omega); omega
  clear hs
  go_enter Try.func47, Try.ntmps47
  go_wp2_with (go_at_call 46; refine (nums_put s.size (by have := Hs.out; omega) _).mono ?_; rintro e w3 ⟨rfl, hb⟩; have Hb := Lib.hid hb; clear hb)
  go_ret
  exact ⟨congrArg (fun x => Ending.returned (.string x)) (Num.str_cat _ s), Hb.out⟩

theorem nums_refputtext (s : ByteArray) (hs : s.size < 2 ^ 62) (w : World) :
    Calls Try.prog 41 #[.string s] w fun e w' => e = .returned (.string (Mem.str (Num.put s.size ++ s.data.toList))) ∧ Below w.heap.size w w' := by
  have Hs := Lib.hid hs
  have hw : IntKind.u64.wrap (s.size : Int) = (s.size : Int) := by rw [IntKind.wrap_u64]; omega
  have hcat : ¬ 9223372036854775807 < (Mem.str (Num.put s.size)).size + s.size := by
    rw [Mem.str_size]; have := Num.put_ten (n := s.size) (by omega); omega
  clear hs
  go_enter Try.func41, Try.ntmps41
  go_wp2_with (go_at_call 40; refine (nums_refput s.size (by have := Hs.out; omega) _).mono ?_; rintro e w3 ⟨rfl, hb⟩; have Hb := Lib.hid hb; clear hb)
  go_ret
  exact ⟨congrArg (fun x => Ending.returned (.string x)) (Num.str_cat _ s), Hb.out⟩

end Go.Proofs.Ytgkadhogfejheaa
