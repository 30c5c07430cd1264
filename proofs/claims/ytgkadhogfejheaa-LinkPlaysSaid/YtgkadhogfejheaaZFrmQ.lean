/- The walks of package frame: putting. -/
import Derived.Test.YtgkadhogfejheaaZFrmP
set_option linter.unusedVariables false
set_option linter.unusedSimpArgs false
namespace Go.Proofs.Ytgkadhogfejheaa
open Go.RowKit

namespace Frm
/-- a frame's bytes ahead of its sum -/
def head (f : F) : List UInt8 :=
  [70, 83, UInt8.ofNat f.kind.toNat] ++ Num.put f.site.toNat ++ ((if f.kind = 1 then Num.put f.seq.toNat else []) ++ (Num.put f.ack.toNat ++ (if f.kind = 1 then Num.put f.body.length ++ f.body else [])))
def put (f : F) : List UInt8 := head f ++ Crc.four (Crc.sum (head f))
theorem conv (w : World) (k : UInt8) : (convert 97 9 (.slice (some ⟨w.heap.size, 0, none⟩) 1 1)).run Try.prog (w.alloc (.cells #[.int .u8 (k.toNat : Int)] 5)) =
    .ok (.string (Mem.str [k])) (w.alloc (.cells #[.int .u8 (k.toNat : Int)] 5)) := by
  refine Mem.run_bytes_string Try.underlying97 Try.underlying5 Try.underlying9 rfl ?_
  intro i hi
  match i, hi with
  | 0, _ => simp
theorem conv_later {w w' : World} {k : UInt8} (hb : Below (w.alloc (.cells #[.int .u8 (k.toNat : Int)] 5)).heap.size (w.alloc (.cells #[.int .u8 (k.toNat : Int)] 5)) w') :
    (convert 97 9 (.slice (some ⟨w.heap.size, 0, none⟩) 1 1)).run Try.prog w' = .ok (.string (Mem.str [k])) w' := by
  refine Mem.run_bytes_string Try.underlying97 Try.underlying5 Try.underlying9 rfl ?_
  intro i hi
  match i, hi with
  | 0, _ =>
    have : (w.alloc (.cells #[.int .u8 (k.toNat : Int)] 5)).cell? ⟨w.heap.size, 0, none⟩ = some (.int .u8 (k.toNat : Int)) := by simp
    exact (hb.cell (p := ⟨w.heap.size, 0, none⟩) (by simp)).trans this
/-- the number's bytes, a one-byte slice having been made just before -/
theorem put_after (n : Nat) (hn : n < 2 ^ 64) (k : UInt8) (z : Int) (hz : z = (k.toNat : Int)) (w : World) :
    Calls Try.prog 46 #[.int .u64 n] (w.alloc (.cells #[.int .u8 z] 5)).drew fun e w' => e = .returned (.string (Mem.str (Num.put n))) ∧
      (Below (w.alloc (.cells #[.int .u8 z] 5)).drew.heap.size (w.alloc (.cells #[.int .u8 z] 5)).drew w' ∧
      (convert 97 9 (.slice (some ⟨w.heap.size, 0, none⟩) 1 1)).run Try.prog w' = .ok (.string (Mem.str [k])) w') := by
  subst hz
  exact (nums_put n hn _).mono fun e w' ⟨h, hb⟩ => ⟨h, hb, conv_later (w := w.drew) hb⟩
theorem cat (x y : List UInt8) : Mem.str x ++ Mem.str y = Mem.str (x ++ y) := by apply ByteArray.ext; simp [Mem.str]
theorem after1 {w w' : World} {o : Obj} (h : Below (w.alloc o).drew.heap.size (w.alloc o).drew w') : Below w.heap.size w w' :=
  (((Below.refl _ _).alloc (Nat.le_refl _) o).drew).trans (h.mono (((Below.refl _ w).alloc (Nat.le_refl _) o).size))
theorem after2 {w w' : World} {o : Obj} (h : Below w.drew.heap.size w.drew w') : Below w.heap.size w (w'.alloc o) :=
  ((Below.refl _ _).drew.trans h).alloc h.size o
end Frm

set_option maxRecDepth 100000 in
set_option maxHeartbeats 1000000 in
theorem frame_put_two (s a : Nat) (hs : 1 ≤ s ∧ s ≤ 16) (ha : a ≤ 1099511627776) (w : World) :
    Calls Try.prog 32 #[Frm.val ⟨2, s, 0, a, []⟩] w fun e w' => e = .returned (.tuple #[.string (Mem.str (Frm.put ⟨2, s, 0, a, []⟩)), .int .i64 0]) ∧ Below w.heap.size w w' := by
  have hok : Frm.okB ⟨2, s, 0, a, []⟩ = true := by simp [Frm.okB]; omega
  have Hs := Lib.hid hs
  have Ha := Lib.hid ha
  have hw1 : IntKind.u64.wrap (s : Int) = (s : Int) := by rw [IntKind.wrap_u64]; omega
  have hw2 : IntKind.u64.wrap (a : Int) = (a : Int) := by rw [IntKind.wrap_u64]; omega
  have Hok := Lib.hid hok
  clear hs ha hok
  unfold Frm.val Frm.cells
  go_enter Try.func32, Try.ntmps32
  go_wp2_with (first
    | (refine Mem.wpList_box rfl 84 _ rfl (.agg #[.int .i64 2, .int .i64 s, .int .i64 0, .int .i64 a, .string (Mem.str [])]) rfl ?_
       intro w1 hn1
       have e0 := hn1.cell1 0 (v := .int .i64 2) rfl
       have e1 := hn1.cell1 1 (v := .int .i64 s) rfl
       have e2 := hn1.cell1 2 (v := .int .i64 0) rfl
       have e3 := hn1.cell1 3 (v := .int .i64 a) rfl
       have e4 := hn1.cell1 4 (v := .string (Mem.str [])) rfl
       have Hn1 := Lib.hid hn1
       clear hn1)
    | (refine wpList_load_row (o := ⟨some 5, _, _, _, _, _⟩) rfl 84 (.tmp 1) rfl _ rfl _ _ _ _ Hn1.out.row Try.underlying84 rfl (by kernel_rfl) ?_)
    | (go_at_call 45
       refine (frame_may ⟨2, s, 0, a, []⟩ _).mono ?_
       rw [Hok.out]
       rintro e w2 ⟨rfl, hb2⟩
       have f0 := hb2.cell (block_lt_of_cell e0) |>.trans e0
       have f1 := hb2.cell (block_lt_of_cell e1) |>.trans e1
       have f2 := hb2.cell (block_lt_of_cell e2) |>.trans e2
       have f3 := hb2.cell (block_lt_of_cell e3) |>.trans e3
       have f4 := hb2.cell (block_lt_of_cell e4) |>.trans e4
       have Hb2 := Lib.hid hb2
       clear hb2))
  go_cut [4] (fun v wx => v = .string (Mem.str ([70, 83, 2] ++ Num.put s)) ∧ Below w2.heap.size w2 wx)
  case first =>
   have hw3 : IntKind.u8.wrap 2 = 2 := by rw [IntKind.wrap_u8]; rfl
   have hconv : ∀ w : World, (convert 97 9 (.slice (some ⟨w.heap.size, 0, none⟩) 1 1)).run Try.prog (w.alloc (.cells #[.int .u8 2] 5)) = .ok (.string (Mem.str [2])) (w.alloc (.cells #[.int .u8 2] 5)) := fun w => Frm.conv w 2
   have hconv2 : ∀ w : World, (convert 97 9 (.slice (some ⟨w.heap.size, 0, none⟩) 1 1)).run Try.prog (w.alloc (.cells #[.int .u8 2] 5)).drew = .ok (.string (Mem.str [2])) (w.alloc (.cells #[.int .u8 2] 5)).drew := fun w => Frm.conv w.drew 2
   have hfs : (ByteArray.mk #[70, 83]) ++ Mem.str [2] = Mem.str [70, 83, 2] := by apply ByteArray.ext; simp [Mem.str]
   have hsz : (Mem.str [70, 83, 2]).size = 3 := by rw [Mem.str_size]; rfl
   have hsz2 : (Mem.str [2]).size = 1 := by rw [Mem.str_size]; rfl
   have hp := Num.put_ten (n := s) (by have := Hs.out; omega)
   have hc1 : ¬ 9223372036854775807 < 3 + (Mem.str (Num.put s)).size := by rw [Mem.str_size]; omega
   clear hp
   go_region_held (fun w' => w'.cell? ⟨w.heap.size, 0, none⟩ = some (.int .i64 2) ∧ w'.cell? ⟨w.heap.size, 1, none⟩ = some (.int .i64 s) ∧ w'.cell? ⟨w.heap.size, 3, none⟩ = some (.int .i64 a))
     (first | go_keep | (go_split_ands; exact ⟨Mem.keep (by assumption) (by assumption), Mem.keep (by assumption) (by assumption), Mem.keep (by assumption) (by assumption)⟩))
     (first
       | (go_at_call 46; with_reducible refine (Frm.put_after s (by have := Hs.out; omega) 2 2 rfl _).mono ?_; rintro e w3 ⟨rfl, hb3, hcv⟩)
       | (go_at_call 46; refine (nums_put s (by have := Hs.out; omega) _).mono ?_; rintro e w3 ⟨rfl, hb3⟩))
   all_goals (go_wp2_with (fail); go_meet)
   all_goals
    refine ⟨by rw [Frm.cat], ?_⟩
    first
      | exact Frm.after1 hb3
      | exact Frm.after2 hb3
  case rest =>
   obtain ⟨rfl, hb3⟩ := hcut
   have g0 := Mem.keep hb3 f0
   have g3 := Mem.keep hb3 f3
   have Hb3 := Lib.hid hb3
   clear f0 f1 f2 f3 f4 e0 e1 e2 e3 e4 hb3
   have hlA : ([70, 83, 2] ++ Num.put s).length ≤ 13 := by have := Num.put_ten (n := s) (by have := Hs.out; omega); simp; omega
   have hlP : (Num.put a).length ≤ 10 := Num.put_ten (by have := Ha.out; omega)
   obtain ⟨A, hA⟩ : ∃ A, [70, 83, 2] ++ Num.put s = A := ⟨_, rfl⟩
   obtain ⟨B, hB⟩ : ∃ B, A ++ Num.put a = B := ⟨_, rfl⟩
   obtain ⟨S, hS⟩ : ∃ S, Crc.four (Crc.sum B) = S := ⟨_, rfl⟩
   rw [hA] at hlA ⊢
   have hszA := Mem.str_size A
   have hszP := Mem.str_size (Num.put a)
   have hszB := Mem.str_size B
   have hszS := Mem.str_size S
   have hcat1 : Mem.str A ++ Mem.str (Num.put a) = Mem.str B := by rw [Frm.cat, hB]
   have hlB : B.length ≤ 23 := by rw [← hB, List.length_append]; omega
   have hlS : S.length = 4 := by rw [← hS]; rfl
   have hc1 : ¬ 9223372036854775807 < A.length + (Num.put a).length := by omega
   have hc2 : ¬ 9223372036854775807 < B.length + S.length := by omega
   have HB := Lib.hid (show (Mem.str B).size ≤ maxLen by rw [hszB]; unfold maxLen; omega)
   have HS := Lib.hid hS
   have HE := Lib.hid (And.intro hA hB)
   clear hA hB hS hlA hlP hlB hlS
   go_wp2_with (first
    | (go_at_call 46; refine (nums_put a (by have := Ha.out; omega) _).mono ?_; rintro e w4 ⟨rfl, hb4⟩; have h0 := Mem.keep hb4 g0; have Hb4 := Lib.hid hb4; clear hb4)
    | (go_at_call 49; refine (crc_sum _ _ HB.out).mono ?_; rintro e w5 ⟨rfl, hb5⟩; rw [Mem.str_toList]; have Hb5 := Lib.hid hb5; clear hb5)
    | (go_at_call 48; refine (crc_put _ _).mono ?_; rw [HS.out]; rintro e w6 ⟨rfl, hb6⟩; have Hb6 := Lib.hid hb6; clear hb6))
   go_ret2
   refine ⟨?_, Mem.then_ (Mem.then_ (Mem.then_ (Mem.then_ (Mem.then_ Hn1.out.below Hb2.out) Hb3.out) Hb4.out) Hb5.out) Hb6.out⟩
   have hh : Frm.head ⟨2, s, 0, a, []⟩ = B := by
     rw [← HE.out.2, ← HE.out.1]; simp [Frm.head]
   have hp : Frm.put ⟨2, s, 0, a, []⟩ = B ++ S := by unfold Frm.put; rw [hh, HS.out]
   rw [hp, ← Frm.cat]
   rfl
set_option maxRecDepth 100000 in
set_option maxHeartbeats 1000000 in
theorem frame_put_one (s q a : Nat) (b : List UInt8) (hs : 1 ≤ s ∧ s ≤ 16) (hq : 1 ≤ q ∧ q ≤ 1099511627776) (ha : a ≤ 1099511627776) (hbl : b.length ≤ 1048576) (w : World) :
    Calls Try.prog 32 #[Frm.val ⟨1, s, q, a, b⟩] w fun e w' => e = .returned (.tuple #[.string (Mem.str (Frm.put ⟨1, s, q, a, b⟩)), .int .i64 0]) ∧ Below w.heap.size w w' := by
  have hok : Frm.okB ⟨1, s, q, a, b⟩ = true := by simp [Frm.okB]; omega
  have Hs := Lib.hid hs
  have Ha := Lib.hid ha
  have Hq := Lib.hid hq
  have Hbl := Lib.hid hbl
  have hw4 : IntKind.u64.wrap (q : Int) = (q : Int) := by rw [IntKind.wrap_u64]; omega
  have hw1 : IntKind.u64.wrap (s : Int) = (s : Int) := by rw [IntKind.wrap_u64]; omega
  have hw2 : IntKind.u64.wrap (a : Int) = (a : Int) := by rw [IntKind.wrap_u64]; omega
  have Hok := Lib.hid hok
  clear hs ha hok hq hbl
  unfold Frm.val Frm.cells
  go_enter Try.func32, Try.ntmps32
  go_wp2_with (first
    | (refine Mem.wpList_box rfl 84 _ rfl (.agg #[.int .i64 1, .int .i64 s, .int .i64 q, .int .i64 a, .string (Mem.str b)]) rfl ?_
       intro w1 hn1
       have e0 := hn1.cell1 0 (v := .int .i64 1) rfl
       have e1 := hn1.cell1 1 (v := .int .i64 s) rfl
       have e2 := hn1.cell1 2 (v := .int .i64 q) rfl
       have e3 := hn1.cell1 3 (v := .int .i64 a) rfl
       have e4 := hn1.cell1 4 (v := .string (Mem.str b)) rfl
       have Hn1 := Lib.hid hn1
       clear hn1)
    | (refine wpList_load_row (o := ⟨some 5, _, _, _, _, _⟩) rfl 84 (.tmp 1) rfl _ rfl _ _ _ _ Hn1.out.row Try.underlying84 rfl (by kernel_rfl) ?_)
    | (go_at_call 45
       refine (frame_may ⟨1, s, q, a, b⟩ _).mono ?_
       rw [Hok.out]
       rintro e w2 ⟨rfl, hb2⟩
       have f0 := hb2.cell (block_lt_of_cell e0) |>.trans e0
       have f1 := hb2.cell (block_lt_of_cell e1) |>.trans e1
       have f2 := hb2.cell (block_lt_of_cell e2) |>.trans e2
       have f3 := hb2.cell (block_lt_of_cell e3) |>.trans e3
       have f4 := hb2.cell (block_lt_of_cell e4) |>.trans e4
       have Hb2 := Lib.hid hb2
       clear hb2))
  go_cut [4] (fun v wx => v = .string (Mem.str ([70, 83, 1] ++ Num.put s)) ∧ Below w2.heap.size w2 wx)
  case first =>
   have hw3 : IntKind.u8.wrap 1 = 1 := by rw [IntKind.wrap_u8]; rfl
   have hconv : ∀ w : World, (convert 97 9 (.slice (some ⟨w.heap.size, 0, none⟩) 1 1)).run Try.prog (w.alloc (.cells #[.int .u8 1] 5)) = .ok (.string (Mem.str [1])) (w.alloc (.cells #[.int .u8 1] 5)) := fun w => Frm.conv w 1
   have hconv2 : ∀ w : World, (convert 97 9 (.slice (some ⟨w.heap.size, 0, none⟩) 1 1)).run Try.prog (w.alloc (.cells #[.int .u8 1] 5)).drew = .ok (.string (Mem.str [1])) (w.alloc (.cells #[.int .u8 1] 5)).drew := fun w => Frm.conv w.drew 1
   have hfs : (ByteArray.mk #[70, 83]) ++ Mem.str [1] = Mem.str [70, 83, 1] := by apply ByteArray.ext; simp [Mem.str]
   have hsz : (Mem.str [70, 83, 1]).size = 3 := by rw [Mem.str_size]; rfl
   have hsz2 : (Mem.str [1]).size = 1 := by rw [Mem.str_size]; rfl
   have hp := Num.put_ten (n := s) (by have := Hs.out; omega)
   have hc1 : ¬ 9223372036854775807 < 3 + (Mem.str (Num.put s)).size := by rw [Mem.str_size]; omega
   clear hp
   go_region_held (fun w' => w'.cell? ⟨w.heap.size, 0, none⟩ = some (.int .i64 1) ∧ w'.cell? ⟨w.heap.size, 1, none⟩ = some (.int .i64 s) ∧ w'.cell? ⟨w.heap.size, 3, none⟩ = some (.int .i64 a))
     (first | go_keep | (go_split_ands; exact ⟨Mem.keep (by assumption) (by assumption), Mem.keep (by assumption) (by assumption), Mem.keep (by assumption) (by assumption)⟩))
     (first
       | (go_at_call 46; with_reducible refine (Frm.put_after s (by have := Hs.out; omega) 1 1 rfl _).mono ?_; rintro e w3 ⟨rfl, hb3, hcv⟩)
       | (go_at_call 46; refine (nums_put s (by have := Hs.out; omega) _).mono ?_; rintro e w3 ⟨rfl, hb3⟩))
   all_goals (go_wp2_with (fail); go_meet)
   all_goals
    refine ⟨by rw [Frm.cat], ?_⟩
    first
      | exact Frm.after1 hb3
      | exact Frm.after2 hb3
  case rest =>
   obtain ⟨rfl, hb3⟩ := hcut
   have g0 := Mem.keep hb3 f0
   have g2 := Mem.keep hb3 f2
   have g3 := Mem.keep hb3 f3
   have g4 := Mem.keep hb3 f4
   have Hb3 := Lib.hid hb3
   clear f0 f1 f2 f3 f4 e0 e1 e2 e3 e4 hb3
   have hlA : ([70, 83, 1] ++ Num.put s).length ≤ 13 := by have := Num.put_ten (n := s) (by have := Hs.out; omega); simp; omega
   have hlP : (Num.put a).length ≤ 10 := Num.put_ten (by have := Ha.out; omega)
   have hlQ : (Num.put q).length ≤ 10 := Num.put_ten (by have := Hq.out; omega)
   have hlT : (Num.put b.length ++ b).length ≤ 1048586 := by have := Num.put_ten (n := b.length) (by have := Hbl.out; omega); have := Hbl.out; simp; omega
   obtain ⟨A, hA⟩ : ∃ A, [70, 83, 1] ++ Num.put s = A := ⟨_, rfl⟩
   obtain ⟨B, hB⟩ : ∃ B, A ++ Num.put q = B := ⟨_, rfl⟩
   obtain ⟨C, hC⟩ : ∃ C, B ++ Num.put a = C := ⟨_, rfl⟩
   obtain ⟨T, hT⟩ : ∃ T, Num.put b.length ++ b = T := ⟨_, rfl⟩
   obtain ⟨D, hD⟩ : ∃ D, C ++ T = D := ⟨_, rfl⟩
   obtain ⟨S, hS⟩ : ∃ S, Crc.four (Crc.sum D) = S := ⟨_, rfl⟩
   rw [hT] at hlT
   rw [hA] at hlA ⊢
   have hszA := Mem.str_size A
   have hszB := Mem.str_size B
   have hszC := Mem.str_size C
   have hszD := Mem.str_size D
   have hszT := Mem.str_size T
   have hszP := Mem.str_size (Num.put a)
   have hszQ := Mem.str_size (Num.put q)
   have hszS := Mem.str_size S
   have hcat1 : Mem.str A ++ Mem.str (Num.put q) = Mem.str B := by rw [Frm.cat, hB]
   have hcat2 : Mem.str B ++ Mem.str (Num.put a) = Mem.str C := by rw [Frm.cat, hC]
   have hcat3 : Mem.str C ++ Mem.str T = Mem.str D := by rw [Frm.cat, hD]
   have hlB : B.length ≤ 23 := by rw [← hB, List.length_append]; omega
   have hlC : C.length ≤ 33 := by rw [← hC, List.length_append]; omega
   have hlD : D.length ≤ 1048619 := by rw [← hD, List.length_append]; omega
   have hlS : S.length = 4 := by rw [← hS]; rfl
   have hc1 : ¬ 9223372036854775807 < A.length + (Num.put q).length := by omega
   have hc2 : ¬ 9223372036854775807 < B.length + (Num.put a).length := by omega
   have hc3 : ¬ 9223372036854775807 < C.length + T.length := by omega
   have hc4 : ¬ 9223372036854775807 < D.length + S.length := by omega
   have HB := Lib.hid (show (Mem.str D).size ≤ maxLen by rw [hszD]; unfold maxLen; omega)
   have HS := Lib.hid hS
   have HT := Lib.hid (show Mem.str (Num.put (Mem.str b).size ++ (Mem.str b).data.toList) = Mem.str T by rw [Mem.str_size, Mem.str_toList, hT])
   have Hbs := Lib.hid (show (Mem.str b).size < 2 ^ 62 by rw [Mem.str_size]; have := Hbl.out; omega)
   have HE := Lib.hid (And.intro hA (And.intro hB (And.intro hC (And.intro hT hD))))
   clear hA hB hC hD hT hS hlA hlP hlB hlS hlQ hlC hlD hlT
   go_wp2_with (fail)
   refine (nums_put q (by have := Hq.out; omega) _).mono ?_
   rintro e w4 ⟨rfl, hb4⟩
   have h0 := Mem.keep hb4 g0
   have h3 := Mem.keep hb4 g3
   have h4 := Mem.keep hb4 g4
   have Hb4 := Lib.hid hb4
   clear hb4 g0 g2 g3 g4
   go_wp2_with (fail)
   refine (nums_put a (by have := Ha.out; omega) _).mono ?_
   rintro e w5 ⟨rfl, hb5⟩
   have i0 := Mem.keep hb5 h0
   have i4 := Mem.keep hb5 h4
   have Hb5 := Lib.hid hb5
   clear hb5 h0 h3 h4
   go_wp2_with (first
    | (go_at_call 47; refine (nums_puttext _ Hbs.out _).mono ?_; rw [HT.out]; rintro e w6 ⟨rfl, hb6⟩; have Hb6 := Lib.hid hb6; clear hb6)
    | (go_at_call 49; refine (crc_sum _ _ HB.out).mono ?_; rintro e w7 ⟨rfl, hb7⟩; rw [Mem.str_toList]; have Hb7 := Lib.hid hb7; clear hb7)
    | (go_at_call 48; refine (crc_put _ _).mono ?_; rw [HS.out]; rintro e w8 ⟨rfl, hb8⟩; have Hb8 := Lib.hid hb8; clear hb8))
   go_ret2
   refine ⟨?_, Mem.then_ (Mem.then_ (Mem.then_ (Mem.then_ (Mem.then_ (Mem.then_ (Mem.then_ Hn1.out.below Hb2.out) Hb3.out) Hb4.out) Hb5.out) Hb6.out) Hb7.out) Hb8.out⟩
   have hh : Frm.head ⟨1, s, q, a, b⟩ = D := by
     rw [← HE.out.2.2.2.2, ← HE.out.2.2.2.1, ← HE.out.2.2.1, ← HE.out.2.1, ← HE.out.1]; simp [Frm.head]
   have hp : Frm.put ⟨1, s, q, a, b⟩ = D ++ S := by unfold Frm.put; rw [hh, HS.out]
   rw [hp, ← Frm.cat]
   rfl

end Go.Proofs.Ytgkadhogfejheaa
