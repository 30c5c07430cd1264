/- The walks of package frame: putting by the document. -/
import Derived.Test.YtgkadhogfejheaaZFrmQ
set_option linter.unusedVariables false
set_option linter.unusedSimpArgs false
section
namespace Go.Proofs.Ytgkadhogfejheaa
open Go.RowKit

namespace Frm
theorem conv3 (w : World) (k : UInt8) : (convert 97 9 (.slice (some ⟨w.heap.size, 0, none⟩) 3 3)).run Try.prog (w.alloc (.cells #[.int .u8 70, .int .u8 83, .int .u8 (k.toNat : Int)] 5)) =
    .ok (.string (Mem.str [70, 83, k])) (w.alloc (.cells #[.int .u8 70, .int .u8 83, .int .u8 (k.toNat : Int)] 5)) := by
  refine Mem.run_bytes_string Try.underlying97 Try.underlying5 Try.underlying9 rfl ?_
  intro i hi
  match i, hi with
  | 0, _ => simp
  | 1, _ => simp
  | 2, _ => simp
theorem conv3_later {w w' : World} {k : UInt8} (hb : Below (w.alloc (.cells #[.int .u8 70, .int .u8 83, .int .u8 (k.toNat : Int)] 5)).heap.size (w.alloc (.cells #[.int .u8 70, .int .u8 83, .int .u8 (k.toNat : Int)] 5)) w') :
    (convert 97 9 (.slice (some ⟨w.heap.size, 0, none⟩) 3 3)).run Try.prog w' = .ok (.string (Mem.str [70, 83, k])) w' := by
  refine Mem.run_bytes_string Try.underlying97 Try.underlying5 Try.underlying9 rfl ?_
  intro i hi
  rw [Nat.zero_add]
  have hlt : w.heap.size < (w.alloc (.cells #[.int .u8 70, .int .u8 83, .int .u8 (k.toNat : Int)] 5)).heap.size := by simp
  rw [hb.cell (p := ⟨w.heap.size, i, none⟩) hlt]
  match i, hi with
  | 0, _ => simp
  | 1, _ => simp
  | 2, _ => simp
theorem refput_after (n : Nat) (hn : n < 2 ^ 64) (k : UInt8) (z : Int) (hz : z = (k.toNat : Int)) (w : World) :
    Calls Try.prog 40 #[.int .u64 n] (w.alloc (.cells #[.int .u8 70, .int .u8 83, .int .u8 z] 5)).drew fun e w' => e = .returned (.string (Mem.str (Num.put n))) ∧
      (Below (w.alloc (.cells #[.int .u8 70, .int .u8 83, .int .u8 z] 5)).drew.heap.size (w.alloc (.cells #[.int .u8 70, .int .u8 83, .int .u8 z] 5)).drew w' ∧
      (convert 97 9 (.slice (some ⟨w.heap.size, 0, none⟩) 3 3)).run Try.prog w' = .ok (.string (Mem.str [70, 83, k])) w') := by
  subst hz
  exact (nums_refput n hn _).mono fun e w' ⟨h, hb⟩ => ⟨h, hb, conv3_later (w := w.drew) hb⟩
end Frm

set_option maxRecDepth 100000 in
set_option maxHeartbeats 1000000 in
theorem frame_refput_two (s a : Nat) (hs : 1 ≤ s ∧ s ≤ 16) (ha : a ≤ 1099511627776) (w : World) :
    Calls Try.prog 25 #[Frm.val ⟨2, s, 0, a, []⟩] w fun e w' => e = .returned (.string (Mem.str (Frm.put ⟨2, s, 0, a, []⟩))) ∧ Below w.heap.size w w' := by
  have Hs := Lib.hid hs
  have Ha := Lib.hid ha
  have hw1 : IntKind.u64.wrap (s : Int) = (s : Int) := by rw [IntKind.wrap_u64]; omega
  have hw2 : IntKind.u64.wrap (a : Int) = (a : Int) := by rw [IntKind.wrap_u64]; omega
  clear hs ha
  unfold Frm.val Frm.cells
  go_enter Try.func25, Try.ntmps25
  go_wp2_with (first
    | (refine Mem.wpList_box rfl 54 _ rfl (.agg #[.int .i64 2, .int .i64 s, .int .i64 0, .int .i64 a, .string (Mem.str [])]) rfl ?_
       intro w1 hn1
       have e0 := hn1.cell1 0 (v := .int .i64 2) rfl
       have e1 := hn1.cell1 1 (v := .int .i64 s) rfl
       have e2 := hn1.cell1 2 (v := .int .i64 0) rfl
       have e3 := hn1.cell1 3 (v := .int .i64 a) rfl
       have e4 := hn1.cell1 4 (v := .string (Mem.str [])) rfl
       have Hn1 := Lib.hid hn1
       clear hn1))
  have f0 := e0
  have f1 := e1
  have f2 := e2
  have f3 := e3
  have f4 := e4
  go_cut [3] (fun v wx => v = .string (Mem.str ([70, 83, 2] ++ Num.put s)) ∧ Below w1.heap.size w1 wx)
  case first =>
   have hw3 : IntKind.u8.wrap 2 = 2 := by rw [IntKind.wrap_u8]; rfl
   have hconv : ∀ w : World, (convert 97 9 (.slice (some ⟨w.heap.size, 0, none⟩) 3 3)).run Try.prog (w.alloc (.cells #[.int .u8 70, .int .u8 83, .int .u8 2] 5)) = .ok (.string (Mem.str [70, 83, 2])) (w.alloc (.cells #[.int .u8 70, .int .u8 83, .int .u8 2] 5)) := fun w => Frm.conv3 w 2
   have hconv2 : ∀ w : World, (convert 97 9 (.slice (some ⟨w.heap.size, 0, none⟩) 3 3)).run Try.prog (w.alloc (.cells #[.int .u8 70, .int .u8 83, .int .u8 2] 5)).drew = .ok (.string (Mem.str [70, 83, 2])) (w.alloc (.cells #[.int .u8 70, .int .u8 83, .int .u8 2] 5)).drew := fun w => Frm.conv3 w.drew 2
   have hsz : (Mem.str [70, 83, 2]).size = 3 := by rw [Mem.str_size]; rfl
   have hp := Num.put_ten (n := s) (by have := Hs.out; omega)
   have hc1 : ¬ 9223372036854775807 < 3 + (Mem.str (Num.put s)).size := by rw [Mem.str_size]; omega
   clear hp
   go_region_held (fun w' => w'.cell? ⟨w.heap.size, 0, none⟩ = some (.int .i64 2) ∧ w'.cell? ⟨w.heap.size, 1, none⟩ = some (.int .i64 s) ∧ w'.cell? ⟨w.heap.size, 3, none⟩ = some (.int .i64 a))
     (first | go_keep | (go_split_ands; exact ⟨Mem.keep (by assumption) (by assumption), Mem.keep (by assumption) (by assumption), Mem.keep (by assumption) (by assumption)⟩))
     (first
       | (go_at_call 40; with_reducible refine (Frm.refput_after s (by have := Hs.out; omega) 2 2 rfl _).mono ?_; rintro e w3 ⟨rfl, hb3, hcv⟩)
       | (go_at_call 40; refine (nums_refput s (by have := Hs.out; omega) _).mono ?_; rintro e w3 ⟨rfl, hb3⟩))
   all_goals (go_wp2_with (fail); go_meet)
   all_goals
    refine ⟨by rw [Frm.cat], ?_⟩
    first
      | exact Frm.after1 hb3
      | exact Frm.after2 hb3
  case rest =>
   obtain ⟨rfl, hb3⟩ := hcut
   have g0 := Mem.keep hb3 f0
   have g3 := Mem.keep hb3 f3
   have Hb3 := Lib.hid hb3
   clear f0 f1 f2 f3 f4 e0 e1 e2 e3 e4 hb3
   have hlA : ([70, 83, 2] ++ Num.put s).length ≤ 13 := by have := Num.put_ten (n := s) (by have := Hs.out; omega); simp; omega
   have hlP : (Num.put a).length ≤ 10 := Num.put_ten (by have := Ha.out; omega)
   obtain ⟨A, hA⟩ : ∃ A, [70, 83, 2] ++ Num.put s = A := ⟨_, rfl⟩
   obtain ⟨B, hB⟩ : ∃ B, A ++ Num.put a = B := ⟨_, rfl⟩
   obtain ⟨S, hS⟩ : ∃ S, Crc.four (Crc.sum B) = S := ⟨_, rfl⟩
   rw [hA] at hlA ⊢
   have hszA := Mem.str_size A
   have hszP := Mem.str_size (Num.put a)
   have hszB := Mem.str_size B
   have hszS := Mem.str_size S
   have hcat1 : Mem.str A ++ Mem.str (Num.put a) = Mem.str B := by rw [Frm.cat, hB]
   have hlB : B.length ≤ 23 := by rw [← hB, List.length_append]; omega
   have hlS : S.length = 4 := by rw [← hS]; rfl
   have hc1 : ¬ 9223372036854775807 < A.length + (Num.put a).length := by omega
   have hc2 : ¬ 9223372036854775807 < B.length + S.length := by omega
   have HB := Lib.hid (show (Mem.str B).size ≤ maxLen by rw [hszB]; unfold maxLen; omega)
   have HS := Lib.hid hS
   have HE := Lib.hid (And.intro hA hB)
   clear hA hB hS hlA hlP hlB hlS
   go_wp2_with (first
    | (go_at_call 40; refine (nums_refput a (by have := Ha.out; omega) _).mono ?_; rintro e w4 ⟨rfl, hb4⟩; have h0 := Mem.keep hb4 g0; have Hb4 := Lib.hid hb4; clear hb4)
    | (go_at_call 43; refine (ref_sum _ _ HB.out).mono ?_; rintro e w5 ⟨rfl, rfl⟩; rw [Mem.str_toList])
    | (go_at_call 42; refine (ref_put _ _).mono ?_; rw [HS.out]; rintro e w6 ⟨rfl, hb6⟩; have Hb6 := Lib.hid hb6; clear hb6))
   go_ret
   refine ⟨?_, Mem.then_ (Mem.then_ (Mem.then_ Hn1.out.below Hb3.out) Hb4.out) Hb6.out⟩
   have hh : Frm.head ⟨2, s, 0, a, []⟩ = B := by
     rw [← HE.out.2, ← HE.out.1]; simp [Frm.head]
   have hp : Frm.put ⟨2, s, 0, a, []⟩ = B ++ S := by unfold Frm.put; rw [hh, HS.out]
   rw [hp, ← Frm.cat]
   rfl
set_option maxRecDepth 100000 in
set_option maxHeartbeats 1000000 in
theorem frame_refput_one (s q a : Nat) (b : List UInt8) (hs : 1 ≤ s ∧ s ≤ 16) (hq : 1 ≤ q ∧ q ≤ 1099511627776) (ha : a ≤ 1099511627776) (hbl : b.length ≤ 1048576) (w : World) :
    Calls Try.prog 25 #[Frm.val ⟨1, s, q, a, b⟩] w fun e w' => e = .returned (.string (Mem.str (Frm.put ⟨1, s, q, a, b⟩))) ∧ Below w.heap.size w w' := by
  have Hs := Lib.hid hs
  have Ha := Lib.hid ha
  have Hq := Lib.hid hq
  have Hbl := Lib.hid hbl
  have hw4 : IntKind.u64.wrap (q : Int) = (q : Int) := by rw [IntKind.wrap_u64]; omega
  have hw1 : IntKind.u64.wrap (s : Int) = (s : Int) := by rw [IntKind.wrap_u64]; omega
  have hw2 : IntKind.u64.wrap (a : Int) = (a : Int) := by rw [IntKind.wrap_u64]; omega
  clear hs ha hq hbl
  unfold Frm.val Frm.cells
  go_enter Try.func25, Try.ntmps25
  go_wp2_with (first
    | (refine Mem.wpList_box rfl 54 _ rfl (.agg #[.int .i64 1, .int .i64 s, .int .i64 q, .int .i64 a, .string (Mem.str b)]) rfl ?_
       intro w1 hn1
       have e0 := hn1.cell1 0 (v := .int .i64 1) rfl
       have e1 := hn1.cell1 1 (v := .int .i64 s) rfl
       have e2 := hn1.cell1 2 (v := .int .i64 q) rfl
       have e3 := hn1.cell1 3 (v := .int .i64 a) rfl
       have e4 := hn1.cell1 4 (v := .string (Mem.str b)) rfl
       have Hn1 := Lib.hid hn1
       clear hn1))
  have f0 := e0
  have f1 := e1
  have f2 := e2
  have f3 := e3
  have f4 := e4
  go_cut [3] (fun v wx => v = .string (Mem.str ([70, 83, 1] ++ Num.put s)) ∧ Below w1.heap.size w1 wx)
  case first =>
   have hw3 : IntKind.u8.wrap 1 = 1 := by rw [IntKind.wrap_u8]; rfl
   have hconv : ∀ w : World, (convert 97 9 (.slice (some ⟨w.heap.size, 0, none⟩) 3 3)).run Try.prog (w.alloc (.cells #[.int .u8 70, .int .u8 83, .int .u8 1] 5)) = .ok (.string (Mem.str [70, 83, 1])) (w.alloc (.cells #[.int .u8 70, .int .u8 83, .int .u8 1] 5)) := fun w => Frm.conv3 w 1
   have hconv2 : ∀ w : World, (convert 97 9 (.slice (some ⟨w.heap.size, 0, none⟩) 3 3)).run Try.prog (w.alloc (.cells #[.int .u8 70, .int .u8 83, .int .u8 1] 5)).drew = .ok (.string (Mem.str [70, 83, 1])) (w.alloc (.cells #[.int .u8 70, .int .u8 83, .int .u8 1] 5)).drew := fun w => Frm.conv3 w.drew 1
   have hsz : (Mem.str [70, 83, 1]).size = 3 := by rw [Mem.str_size]; rfl
   have hp := Num.put_ten (n := s) (by have := Hs.out; omega)
   have hc1 : ¬ 9223372036854775807 < 3 + (Mem.str (Num.put s)).size := by rw [Mem.str_size]; omega
   clear hp
   go_region_held (fun w' => w'.cell? ⟨w.heap.size, 0, none⟩ = some (.int .i64 1) ∧ w'.cell? ⟨w.heap.size, 1, none⟩ = some (.int .i64 s) ∧ w'.cell? ⟨w.heap.size, 3, none⟩ = some (.int .i64 a))
     (first | go_keep | (go_split_ands; exact ⟨Mem.keep (by assumption) (by assumption), Mem.keep (by assumption) (by assumption), Mem.keep (by assumption) (by assumption)⟩))
     (first
       | (go_at_call 40; with_reducible refine (Frm.refput_after s (by have := Hs.out; omega) 1 1 rfl _).mono ?_; rintro e w3 ⟨rfl, hb3, hcv⟩)
       | (go_at_call 40; refine (nums_refput s (by have := Hs.out; omega) _).mono ?_; rintro e w3 ⟨rfl, hb3⟩))
   all_goals (go_wp2_with (fail); go_meet)
   all_goals
    refine ⟨by rw [Frm.cat], ?_⟩
    first
      | exact Frm.after1 hb3
      | exact Frm.after2 hb3
  case rest =>
   obtain ⟨rfl, hb3⟩ := hcut
   have g0 := Mem.keep hb3 f0
   have g2 := Mem.keep hb3 f2
   have g3 := Mem.keep hb3 f3
   have g4 := Mem.keep hb3 f4
   have Hb3 := Lib.hid hb3
   clear f0 f1 f2 f3 f4 e0 e1 e2 e3 e4 hb3
   have hlA : ([70, 83, 1] ++ Num.put s).length ≤ 13 := by have := Num.put_ten (n := s) (by have := Hs.out; omega); simp; omega
   have hlP : (Num.put a).length ≤ 10 := Num.put_ten (by have := Ha.out; omega)
   have hlQ : (Num.put q).length ≤ 10 := Num.put_ten (by have := Hq.out; omega)
   have hlT : (Num.put b.length ++ b).length ≤ 1048586 := by have := Num.put_ten (n := b.length) (by have := Hbl.out; omega); have := Hbl.out; simp; omega
   obtain ⟨A, hA⟩ : ∃ A, [70, 83, 1] ++ Num.put s = A := ⟨_, rfl⟩
   obtain ⟨B, hB⟩ : ∃ B, A ++ Num.put q = B := ⟨_, rfl⟩
   obtain ⟨C, hC⟩ : ∃ C, B ++ Num.put a = C := ⟨_, rfl⟩
   obtain ⟨T, hT⟩ : ∃ T, Num.put b.length ++ b = T := ⟨_, rfl⟩
   obtain ⟨D, hD⟩ : ∃ D, C ++ T = D := ⟨_, rfl⟩
   obtain ⟨S, hS⟩ : ∃ S, Crc.four (Crc.sum D) = S := ⟨_, rfl⟩
   rw [hT] at hlT
   rw [hA] at hlA ⊢
   have hszA := Mem.str_size A
   have hszB := Mem.str_size B
   have hszC := Mem.str_size C
   have hszD := Mem.str_size D
   have hszT := Mem.str_size T
   have hszP := Mem.str_size (Num.put a)
   have hszQ := Mem.str_size (Num.put q)
   have hszS := Mem.str_size S
   have hcat1 : Mem.str A ++ Mem.str (Num.put q) = Mem.str B := by rw [Frm.cat, hB]
   have hcat2 : Mem.str B ++ Mem.str (Num.put a) = Mem.str C := by rw [Frm.cat, hC]
   have hcat3 : Mem.str C ++ Mem.str T = Mem.str D := by rw [Frm.cat, hD]
   have hlB : B.length ≤ 23 := by rw [← hB, List.length_append]; omega
   have hlC : C.length ≤ 33 := by rw [← hC, List.length_append]; omega
   have hlD : D.length ≤ 1048619 := by rw [← hD, List.length_append]; omega
   have hlS : S.length = 4 := by rw [← hS]; rfl
   have hc1 : ¬ 9223372036854775807 < A.length + (Num.put q).length := by omega
   have hc2 : ¬ 9223372036854775807 < B.length + (Num.put a).length := by omega
   have hc3 : ¬ 9223372036854775807 < C.length + T.length := by omega
   have hc4 : ¬ 9223372036854775807 < D.length + S.length := by omega
   have HB := Lib.hid (show (Mem.str D).size ≤ maxLen by rw [hszD]; unfold maxLen; omega)
   have HS := Lib.hid hS
   have HT := Lib.hid (show Mem.str (Num.put (Mem.str b).size ++ (Mem.str b).data.toList) = Mem.str T by rw [Mem.str_size, Mem.str_toList, hT])
   have Hbs := Lib.hid (show (Mem.str b).size < 2 ^ 62 by rw [Mem.str_size]; have := Hbl.out; omega)
   have HE := Lib.hid (And.intro hA (And.intro hB (And.intro hC (And.intro hT hD))))
   clear hA hB hC hD hT hS hlA hlP hlB hlS hlQ hlC hlD hlT
   go_wp2_with (fail)
   go_region_held (fun w' => w'.cell? ⟨w.heap.size, 2, none⟩ = some (.int .i64 q) ∧ w'.cell? ⟨w.heap.size, 3, none⟩ = some (.int .i64 a) ∧ w'.cell? ⟨w.heap.size, 4, none⟩ = some (.string (Mem.str b)))
     (first | go_keep | (go_split_ands; exact ⟨Mem.keep (by assumption) (by assumption), Mem.keep (by assumption) (by assumption), Mem.keep (by assumption) (by assumption)⟩))
     (first
       | (go_at_call_of 40 (Value.int IntKind.u64 (q : Int)); refine (nums_refput q (by have := Hq.out; omega) _).mono ?_; rintro e w4 ⟨rfl, hb4⟩)
       | (go_at_call_of 40 (Value.int IntKind.u64 (a : Int)); refine (nums_refput a (by have := Ha.out; omega) _).mono ?_; rintro e w5 ⟨rfl, hb5⟩)
       | (go_at_call 41; refine (nums_refputtext _ Hbs.out _).mono ?_; rw [HT.out]; rintro e w6 ⟨rfl, hb6⟩))
   have hb7 : Below wc.heap.size wc w6 := Mem.then_ (Mem.then_ ((Below.refl _ _).drew.trans hb4) hb5) hb6
   have Hb6 := Lib.hid hb7
   clear hb4 hb5 hb6 hb7
   go_wp2_with (first
    | (go_at_call 43; refine (ref_sum _ _ HB.out).mono ?_; rintro e w7 ⟨rfl, rfl⟩; rw [Mem.str_toList])
    | (go_at_call 42; refine (ref_put _ _).mono ?_; rw [HS.out]; rintro e w8 ⟨rfl, hb8⟩; have Hb8 := Lib.hid hb8; clear hb8))
   go_ret
   refine ⟨?_, Mem.then_ (Mem.then_ (Mem.then_ Hn1.out.below Hb3.out) Hb6.out) Hb8.out⟩
   have hh : Frm.head ⟨1, s, q, a, b⟩ = D := by
     rw [← HE.out.2.2.2.2, ← HE.out.2.2.2.1, ← HE.out.2.2.1, ← HE.out.2.1, ← HE.out.1]; simp [Frm.head]
   have hp : Frm.put ⟨1, s, q, a, b⟩ = D ++ S := by unfold Frm.put; rw [hh, HS.out]
   rw [hp, ← Frm.cat]
   rfl
end Go.Proofs.Ytgkadhogfejheaa
end
/-! The laws of chapter 05: small walks, FramePuts. -/
section
namespace Go.Proofs.Ytgkadhogfejheaa
open Go.RowKit

namespace Frm
theorem zero_frame : (Try.prog.info? 84).bind (·.zero) = some (.agg #[.int .i64 0, .int .i64 0, .int .i64 0, .int .i64 0, .string ⟨#[]⟩]) := by kernel_rfl
theorem zero_refframe : (Try.prog.info? 54).bind (·.zero) = some (.agg #[.int .i64 0, .int .i64 0, .int .i64 0, .int .i64 0, .string ⟨#[]⟩]) := by kernel_rfl
theorem size_frame : (Try.prog.info? 84).map (·.size) = some 5 := by kernel_rfl
theorem size_refframe : (Try.prog.info? 54).map (·.size) = some 5 := by kernel_rfl
theorem one_cells (k s q a : Int) (b : ByteArray) : (#[Value.int .i64 k, .int .i64 s, .int .i64 q, .int .i64 a, .string b]).all (·.oneCell') = true := by simp [Value.oneCell']
end Frm

end Go.Proofs.Ytgkadhogfejheaa
end
/-! The laws of chapter 05: FramePuts. -/
section
namespace Go.Proofs.Ytgkadhogfejheaa
open Go.RowKit

namespace Frm
theorem shapes (f : F) (h : okB f = true) : (∃ s a : Nat, f = ⟨2, s, 0, a, []⟩ ∧ (1 ≤ s ∧ s ≤ 16) ∧ a ≤ 1099511627776) ∨
    (∃ (s q a : Nat) (b : List UInt8), f = ⟨1, s, q, a, b⟩ ∧ (1 ≤ s ∧ s ≤ 16) ∧ (1 ≤ q ∧ q ≤ 1099511627776) ∧ a ≤ 1099511627776 ∧ b.length ≤ 1048576) := by
  obtain ⟨k, s, q, a, b⟩ := f
  obtain ⟨h1, h2, h3⟩ := (ok_iff _).1 h
  simp only at h1 h2 h3
  rcases h3 with ⟨rfl, rfl, rfl⟩ | ⟨rfl, h4, h5⟩
  · refine .inl ⟨s.toNat, a.toNat, ?_, by omega, by omega⟩
    have e1 : ((s.toNat : Nat) : Int) = s := by omega
    have e2 : ((a.toNat : Nat) : Int) = a := by omega
    rw [e1, e2]
  · refine .inr ⟨s.toNat, q.toNat, a.toNat, b, ?_, by omega, by omega, by omega, h5⟩
    have e1 : ((s.toNat : Nat) : Int) = s := by omega
    have e2 : ((a.toNat : Nat) : Int) = a := by omega
    have e3 : ((q.toNat : Nat) : Int) = q := by omega
    rw [e1, e2, e3]
end Frm

theorem frame_refput (f : Frm.F) (hok : Frm.okB f = true) (w : World) :
    Calls Try.prog 25 #[Frm.val f] w fun e w' => e = .returned (.string (Mem.str (Frm.put f))) ∧ Below w.heap.size w w' := by
  rcases Frm.shapes f hok with ⟨s, a, rfl, h1, h2⟩ | ⟨s, q, a, b, rfl, h1, h2, h3, h4⟩
  · exact frame_refput_two s a h1 h2 w
  · exact frame_refput_one s q a b h1 h2 h3 h4 w

end Go.Proofs.Ytgkadhogfejheaa
end
/-! The walks of package frame: getting, the fields. -/
section
namespace Go.Proofs.Ytgkadhogfejheaa
open Go.RowKit

namespace Frm
/-- the reader of a frame at block r: what it reads by, at block g, and what it has read -/
def Rr (w : World) (r g : Nat) (f : F) : Prop :=
  w.heap[r]? = some (.cells #[.pointer (some ⟨g, 0, none⟩), .int .i64 f.kind, .int .i64 f.site, .int .i64 f.seq, .int .i64 f.ack, .string (Mem.str f.body)] 112 (0, 0))
theorem Rr.cell {w : World} {r g : Nat} {f : F} (h : Rr w r g f) (i : Nat) {v : Value} (hv : (#[Value.pointer (some ⟨g, 0, none⟩), .int .i64 f.kind, .int .i64 f.site, .int .i64 f.seq, .int .i64 f.ack, .string (Mem.str f.body)] : Array Value)[i]? = some v) :
    w.cell? ⟨r, i, none⟩ = some v := (cell_of_row w r i _ _ _ h).trans hv
theorem Rr.free {w : World} {r g : Nat} {f : F} (h : Rr w r g f) (i : Nat) : w.frozen? ⟨r, i, none⟩ = false := frozen_of_row _ _ _ _ _ h
theorem Rr.lt {w : World} {r g : Nat} {f : F} (h : Rr w r g f) : r < w.heap.size := (Array.getElem?_eq_some_iff.1 h).1
theorem step_x {most : Nat} {l t : List UInt8} {x : Nat} {f f' : Int} (h : Num.step most l f = (x, t, f')) : x ≤ most ∧ t.length ≤ l.length := by
  unfold Num.step at h
  split at h
  · simp at h; obtain ⟨rfl, rfl, _⟩ := h; simp
  · split at h
    · rename_i hr; simp at h; obtain ⟨rfl, rfl, _⟩ := h
      have := Num.read_put hr
      exact ⟨this.2, by rw [this.1]; simp⟩
    · simp at h; obtain ⟨rfl, rfl, _⟩ := h; simp
end Frm

set_option maxRecDepth 100000 in
theorem frame_field1 (r g : Nat) (hne : r ≠ g) (f : Frm.F) (l : List UInt8) (c : Int) (w : World) (hl : l.length < 2 ^ 62) (hr : Frm.Rr w r g f) (hrd : Num.Rd w g l c) :
    Calls Try.prog 66 #[.pointer (some ⟨r, 0, none⟩)] w fun e w' =>
      ∃ (x : Nat) (t : List UInt8) (c' : Int), Num.step 16 l c = (x, t, c') ∧ e = .returned (.tuple #[]) ∧ Frm.Rr w' r g { f with site := x } ∧ Num.Rd w' g t c' ∧ Mem.But (fun k => k = g ∨ k = r) w w' := by
  have e0 := hr.cell 0 rfl
  have Hr := Lib.hid hr
  have Hrd := Lib.hid hrd
  have Hl := Lib.hid hl
  clear hr hrd hl
  go_enter Try.func66, Try.ntmps66
  go_wp2_with (fail)
  refine (nums_Num g 16 l c w (by omega) Hl.out Hrd.out).mono ?_
  rintro e w1 ⟨x, t, c', hst, rfl, hrd1, hbut⟩
  have hx := (Frm.step_x hst).1
  have hw : wrap64 (x : Int) = (x : Int) := by unfold wrap64; omega
  have hr1 : Frm.Rr w1 r g f := (hbut.block r Hr.out.lt hne).trans Hr.out
  have e1 := hr1.cell 2 rfl
  have e2 := hr1.free 2
  have Hr1 := Lib.hid hr1
  have Hst := Lib.hid hst
  have Hrd1 := Lib.hid hrd1
  have Hbut := Lib.hid hbut
  clear hst hrd1 hbut hr1 hx
  go_wp2
  have hp := Mem.put_setCell w1 r 2 (.int .i64 x) _ _ Hr1.out
  refine ⟨rfl, .tuple #[], by simp [results, Try.results66], x, t, c', Hst.out, rfl, hp.row, (hp.other g (Ne.symm hne)).trans Hrd1.out, ?_⟩
  exact (Hbut.out.mono fun _ _ h => .inl h).trans (Mem.But.of_put hp (.inr rfl))
set_option maxRecDepth 100000 in
theorem frame_field2 (r g : Nat) (hne : r ≠ g) (f : Frm.F) (l : List UInt8) (c : Int) (w : World) (hl : l.length < 2 ^ 62) (hr : Frm.Rr w r g f) (hrd : Num.Rd w g l c) :
    Calls Try.prog 68 #[.pointer (some ⟨r, 0, none⟩)] w fun e w' =>
      ∃ (x : Nat) (t : List UInt8) (c' : Int), Num.step 1099511627776 l c = (x, t, c') ∧ e = .returned (.tuple #[]) ∧ Frm.Rr w' r g { f with seq := x } ∧ Num.Rd w' g t c' ∧ Mem.But (fun k => k = g ∨ k = r) w w' := by
  have e0 := hr.cell 0 rfl
  have Hr := Lib.hid hr
  have Hrd := Lib.hid hrd
  have Hl := Lib.hid hl
  clear hr hrd hl
  go_enter Try.func68, Try.ntmps68
  go_wp2_with (fail)
  refine (nums_Num g 1099511627776 l c w (by omega) Hl.out Hrd.out).mono ?_
  rintro e w1 ⟨x, t, c', hst, rfl, hrd1, hbut⟩
  have hx := (Frm.step_x hst).1
  have hw : wrap64 (x : Int) = (x : Int) := by unfold wrap64; omega
  have hr1 : Frm.Rr w1 r g f := (hbut.block r Hr.out.lt hne).trans Hr.out
  have e1 := hr1.cell 3 rfl
  have e2 := hr1.free 3
  have Hr1 := Lib.hid hr1
  have Hst := Lib.hid hst
  have Hrd1 := Lib.hid hrd1
  have Hbut := Lib.hid hbut
  clear hst hrd1 hbut hr1 hx
  go_wp2
  have hp := Mem.put_setCell w1 r 3 (.int .i64 x) _ _ Hr1.out
  refine ⟨rfl, .tuple #[], by simp [results, Try.results68], x, t, c', Hst.out, rfl, hp.row, (hp.other g (Ne.symm hne)).trans Hrd1.out, ?_⟩
  exact (Hbut.out.mono fun _ _ h => .inl h).trans (Mem.But.of_put hp (.inr rfl))

set_option maxRecDepth 100000 in
theorem frame_field3 (r g : Nat) (hne : r ≠ g) (f : Frm.F) (l : List UInt8) (c : Int) (w : World) (hl : l.length < 2 ^ 62) (hr : Frm.Rr w r g f) (hrd : Num.Rd w g l c) :
    Calls Try.prog 69 #[.pointer (some ⟨r, 0, none⟩)] w fun e w' =>
      ∃ (x : Nat) (t : List UInt8) (c' : Int), Num.step 1099511627776 l c = (x, t, c') ∧ e = .returned (.tuple #[]) ∧ Frm.Rr w' r g { f with ack := x } ∧ Num.Rd w' g t c' ∧ Mem.But (fun k => k = g ∨ k = r) w w' := by
  have e0 := hr.cell 0 rfl
  have Hr := Lib.hid hr
  have Hrd := Lib.hid hrd
  have Hl := Lib.hid hl
  clear hr hrd hl
  go_enter Try.func69, Try.ntmps69
  go_wp2_with (fail)
  refine (nums_Num g 1099511627776 l c w (by omega) Hl.out Hrd.out).mono ?_
  rintro e w1 ⟨x, t, c', hst, rfl, hrd1, hbut⟩
  have hx := (Frm.step_x hst).1
  have hw : wrap64 (x : Int) = (x : Int) := by unfold wrap64; omega
  have hr1 : Frm.Rr w1 r g f := (hbut.block r Hr.out.lt hne).trans Hr.out
  have e1 := hr1.cell 4 rfl
  have e2 := hr1.free 4
  have Hr1 := Lib.hid hr1
  have Hst := Lib.hid hst
  have Hrd1 := Lib.hid hrd1
  have Hbut := Lib.hid hbut
  clear hst hrd1 hbut hr1 hx
  go_wp2
  have hp := Mem.put_setCell w1 r 4 (.int .i64 x) _ _ Hr1.out
  refine ⟨rfl, .tuple #[], by simp [results, Try.results69], x, t, c', Hst.out, rfl, hp.row, (hp.other g (Ne.symm hne)).trans Hrd1.out, ?_⟩
  exact (Hbut.out.mono fun _ _ h => .inl h).trans (Mem.But.of_put hp (.inr rfl))

set_option maxRecDepth 100000 in
theorem frame_field4 (r g : Nat) (hne : r ≠ g) (f : Frm.F) (l : List UInt8) (c : Int) (w : World) (hl : l.length < 2 ^ 62) (hr : Frm.Rr w r g f) (hrd : Num.Rd w g l c) :
    Calls Try.prog 70 #[.pointer (some ⟨r, 0, none⟩)] w fun e w' =>
      ∃ (x : List UInt8) (t : List UInt8) (c' : Int), Num.text 1048576 l c = (x, t, c') ∧ e = .returned (.tuple #[]) ∧ Frm.Rr w' r g { f with body := x } ∧ Num.Rd w' g t c' ∧ Mem.But (fun k => k = g ∨ k = r) w w' := by
  have e0 := hr.cell 0 rfl
  have Hr := Lib.hid hr
  have Hrd := Lib.hid hrd
  have Hl := Lib.hid hl
  clear hr hrd hl
  go_enter Try.func70, Try.ntmps70
  go_wp2_with (fail)
  refine (nums_Text g 1048576 l c w (by omega) Hl.out Hrd.out).mono ?_
  rintro e w1 ⟨x, t, c', hst, rfl, hrd1, hbut⟩
  have hr1 : Frm.Rr w1 r g f := (hbut.block r Hr.out.lt hne).trans Hr.out
  have e1 := hr1.cell 5 rfl
  have e2 := hr1.free 5
  have Hr1 := Lib.hid hr1
  have Hst := Lib.hid hst
  have Hrd1 := Lib.hid hrd1
  have Hbut := Lib.hid hbut
  clear hst hrd1 hbut hr1
  go_wp2
  have hp := Mem.put_setCell w1 r 5 (.string (Mem.str x)) _ _ Hr1.out
  refine ⟨rfl, .tuple #[], by simp [results, Try.results70], x, t, c', Hst.out, rfl, hp.row, (hp.other g (Ne.symm hne)).trans Hrd1.out, ?_⟩
  exact (Hbut.out.mono fun _ _ h => .inl h).trans (Mem.But.of_put hp (.inr rfl))

end Go.Proofs.Ytgkadhogfejheaa
end
