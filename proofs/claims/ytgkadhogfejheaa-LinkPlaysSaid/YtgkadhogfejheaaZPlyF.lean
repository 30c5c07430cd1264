/- LinkPlays: the argument opened; what is too great. -/
import Derived.Test.YtgkadhogfejheaaZPlyE
import Derived.Deep.Slices
import Derived.Deep.Fields
set_option linter.unusedVariables false
set_option linter.unusedSimpArgs false
namespace Go.Proofs.Ytgkadhogfejheaa
open Go.RowKit

namespace Ply
structure Ax where
  d : Nat
  S : List UInt8
  f : Frm.F
def Ax.vals (s : Ax) : List Value := [.int .u8 s.d, .string (Mem.str s.S), .int .i64 s.f.kind, .int .i64 s.f.site, .int .i64 s.f.seq, .int .i64 s.f.ack, .string (Mem.str s.f.body)]
def Ax.Fit (s : Ax) : Prop := s.d < 256 ∧ s.S.length ≤ maxLen ∧ s.f.body.length ≤ maxLen
theorem cells_act : Try.prog.cellsOf 56 = 7 := by kernel_rfl
theorem cells_frm : Try.prog.cellsOf 54 = 5 := by kernel_rfl
theorem cells_u8 : Try.prog.cellsOf 5 = 1 := by kernel_rfl
theorem cells_int : Try.prog.cellsOf 3 = 1 := by kernel_rfl
theorem cells_str : Try.prog.cellsOf 9 = 1 := by kernel_rfl
theorem of_u8 {x : Int} (h : (Lit.int .u8 x).wf = true) : ∃ n : Nat, x = n ∧ n < 256 := by
  have h2 : 0 ≤ x ∧ x ≤ 255 := by simpa [Lit.wf, IntKind.min, IntKind.max, IntKind.signed, IntKind.bits] using h
  exact ⟨x.toNat, by omega, by omega⟩
theorem trod_frm {H : Type} {enc : TypeId × Value → H} {w : World} {base : Nat} {spare : Nat → Bool} {held : Bool} {n : Nat} {cs : List Value} {x : DataW H × List MemPlace} (h : DataW.trod enc Try.prog w base spare held n 54 cs = some x) (hc : cs.length = 5) :
    ∃ f : Frm.F, cs = [.int .i64 f.kind, .int .i64 f.site, .int .i64 f.seq, .int .i64 f.ack, .string (Mem.str f.body)] ∧ f.body.length ≤ maxLen := by
  match cs, hc with
  | [c0, c1, c2, c3, c4], _ =>
    obtain ⟨ys, m, _, _, _, hl, hf⟩ := DataW.trod_struct Try.underlying54 h
    obtain ⟨y0, y1, y2, y3, y4, rfl⟩ : ∃ y0 y1 y2 y3 y4, ys = [y0, y1, y2, y3, y4] := by
      match ys, hl with
      | [y0, y1, y2, y3, y4], _ => exact ⟨y0, y1, y2, y3, y4, rfl⟩
    have h0 : DataW.trod enc Try.prog w base spare held m 3 (List.take (Try.prog.cellsOf 3) (List.drop 0 [c0, c1, c2, c3, c4])) = [y0, y1, y2, y3, y4][0]? := hf 0 _ rfl
    have h1 : DataW.trod enc Try.prog w base spare held m 3 (List.take (Try.prog.cellsOf 3) (List.drop 1 [c0, c1, c2, c3, c4])) = [y0, y1, y2, y3, y4][1]? := hf 1 _ rfl
    have h2 : DataW.trod enc Try.prog w base spare held m 3 (List.take (Try.prog.cellsOf 3) (List.drop 2 [c0, c1, c2, c3, c4])) = [y0, y1, y2, y3, y4][2]? := hf 2 _ rfl
    have h3 : DataW.trod enc Try.prog w base spare held m 3 (List.take (Try.prog.cellsOf 3) (List.drop 3 [c0, c1, c2, c3, c4])) = [y0, y1, y2, y3, y4][3]? := hf 3 _ rfl
    have h4 : DataW.trod enc Try.prog w base spare held m 9 (List.take (Try.prog.cellsOf 9) (List.drop 4 [c0, c1, c2, c3, c4])) = [y0, y1, y2, y3, y4][4]? := hf 4 _ rfl
    rw [cells_int] at h0 h1 h2 h3
    rw [cells_str] at h4
    obtain ⟨x0, e0, _, w0⟩ := DataW.trod_int Try.underlying3 (by simpa using h0)
    obtain ⟨x1, e1, _, w1⟩ := DataW.trod_int Try.underlying3 (by simpa using h1)
    obtain ⟨x2, e2, _, w2⟩ := DataW.trod_int Try.underlying3 (by simpa using h2)
    obtain ⟨x3, e3, _, w3⟩ := DataW.trod_int Try.underlying3 (by simpa using h3)
    obtain ⟨x4, e4, _, w4⟩ := DataW.trod_string Try.underlying9 (by simpa using h4)
    simp only [List.cons.injEq, and_true] at e0 e1 e2 e3 e4
    refine ⟨⟨x0, x1, x2, x3, x4.data.toList⟩, ?_, by simpa using w4⟩
    rw [e0, e1, e2, e3, e4]
    simp only
    rw [Mem.str_of]
theorem trod_act {H : Type} {enc : TypeId × Value → H} {w : World} {base : Nat} {spare : Nat → Bool} {held : Bool} {n : Nat} {cs : List Value} {x : DataW H × List MemPlace} (h : DataW.trod enc Try.prog w base spare held n 56 cs = some x) (hc : cs.length = 7) :
    ∃ s : Ax, cs = s.vals ∧ s.Fit := by
  match cs, hc with
  | [c0, c1, c2, c3, c4, c5, c6], _ =>
    obtain ⟨ys, m, _, _, _, hl, hf⟩ := DataW.trod_struct Try.underlying56 h
    obtain ⟨y0, y1, y2, rfl⟩ : ∃ y0 y1 y2, ys = [y0, y1, y2] := by
      match ys, hl with
      | [y0, y1, y2], _ => exact ⟨y0, y1, y2, rfl⟩
    have h0 : DataW.trod enc Try.prog w base spare held m 5 (List.take (Try.prog.cellsOf 5) (List.drop 0 [c0, c1, c2, c3, c4, c5, c6])) = [y0, y1, y2][0]? := hf 0 _ rfl
    have h1 : DataW.trod enc Try.prog w base spare held m 9 (List.take (Try.prog.cellsOf 9) (List.drop 1 [c0, c1, c2, c3, c4, c5, c6])) = [y0, y1, y2][1]? := hf 1 _ rfl
    have h2 : DataW.trod enc Try.prog w base spare held m 54 (List.take (Try.prog.cellsOf 54) (List.drop 2 [c0, c1, c2, c3, c4, c5, c6])) = [y0, y1, y2][2]? := hf 2 _ rfl
    rw [cells_u8] at h0
    rw [cells_str] at h1
    rw [cells_frm] at h2
    obtain ⟨x0, e0, _, w0⟩ := DataW.trod_int Try.underlying5 (by simpa using h0)
    obtain ⟨x1, e1, _, w1⟩ := DataW.trod_string Try.underlying9 (by simpa using h1)
    obtain ⟨f, e2, w2⟩ := trod_frm (cs := [c2, c3, c4, c5, c6]) (by simpa using h2) rfl
    simp only [List.cons.injEq, and_true] at e0 e1 e2
    obtain ⟨d, rfl, hd⟩ := of_u8 w0
    refine ⟨⟨d, x1.data.toList, f⟩, ?_, hd, by simpa using w1, w2⟩
    rw [e0, e1, e2.1, e2.2.1, e2.2.2.1, e2.2.2.2.1, e2.2.2.2.2]
    unfold Ax.vals
    simp only
    rw [Mem.str_of]
/-- the argument reads as a list of calls -/
def ActsAt (w : World) (a0 : Option Addr) (l : List Ax) : Prop := 0 < l.length → ∃ b o, a0 = some ⟨b, o, none⟩ ∧ ∀ j s, l[j]? = some s → ∀ i u, s.vals[i]? = some u → w.cell? ⟨b, o + j * 7 + i, none⟩ = some u
theorem arg_acts {H : Type} {enc : TypeId × Value → H} {w : World} {a0 : Option Addr} {len cap : Nat} {d : DataW H} {p : List MemPlace} (h : DataW.Trod enc Try.prog w 0 (fun _ => true) true 41 (.slice a0 len cap) d p) :
    ∃ l : List Ax, l.length = len ∧ len ≤ cap ∧ cap ≤ maxLen ∧ ActsAt w a0 l ∧ ∀ s ∈ l, s.Fit := by
  obtain ⟨fuel, h⟩ := h
  simp only [Value.cells] at h
  rcases Deep.open_slice Try.underlying41 h with ⟨h1, _⟩ | ⟨a, l2, c2, m, n, D, Pl, h1, _, h3, h4, h5, _, h6⟩
  · simp only [List.cons.injEq, and_true] at h1
    cases h1
    exact ⟨[], rfl, by omega, by unfold maxLen; omega, fun h => by simp at h, fun s hs => by simp at hs⟩
  · simp only [List.cons.injEq, and_true] at h1
    cases h1
    have hm : m = cap := h5
    subst hm
    rw [cells_act] at h6
    have hch : ∃ f : Nat → Ax, ∀ i, i < len → w.cells? 0 (a.add (i * 7)) 7 = some (f i).vals ∧ (f i).Fit := by
      have := fun i (hi : i < len) => (by
        obtain ⟨cs, g1, g2⟩ := h6 i (by omega)
        obtain ⟨_, hcl, _⟩ := World.cells?_some g1
        obtain ⟨s, rfl, hs⟩ := trod_act g2 hcl
        exact ⟨s, g1, hs⟩ : ∃ s : Ax, w.cells? 0 (a.add (i * 7)) 7 = some s.vals ∧ s.Fit)
      refine ⟨fun i => if hi : i < len then Classical.choose (this i hi) else ⟨0, [], ⟨0, 0, 0, 0, []⟩⟩, fun i hi => ?_⟩
      simp only [dif_pos hi]
      exact Classical.choose_spec (this i hi)
    obtain ⟨f, hf⟩ := hch
    have hall : ∀ j s, ((List.range len).map f)[j]? = some s → ∀ i u, s.vals[i]? = some u → w.cell? (a.add (j * 7 + i)) = some u := fun j s hj i u hu => by
      have hj2 : j < len := by have := (List.getElem?_eq_some_iff.1 hj).1; simpa using this
      have hs : s = f j := by
        rw [List.getElem?_map, List.getElem?_range hj2] at hj
        simpa using hj.symm
      subst hs
      obtain ⟨_, _, hat⟩ := World.cells?_some (hf j hj2).1
      have hi : i < 7 := (List.getElem?_eq_some_iff.1 hu).1
      have h7 := hat i hi
      rw [Deep.add_add] at h7
      exact h7.trans hu
    refine ⟨(List.range len).map f, by simp, h3, h4, fun hpos => ?_, fun s hs => ?_⟩
    · obtain ⟨b, o, sp⟩ := a
      have hp0 : 0 < len := by simpa using hpos
      have hspot : sp = none := by
        have h0 := hall 0 (f 0) (by rw [List.getElem?_map, List.getElem?_range hp0]; rfl) 0 _ rfl
        simpa [Addr.add] using World.cell?_spot h0
      subst hspot
      refine ⟨b, o, rfl, fun j s hj i u hu => ?_⟩
      have := hall j s hj i u hu
      rw [Go.WideShapes.add_plain, ← Nat.add_assoc] at this
      exact this
    · obtain ⟨j, hj, rfl⟩ := List.mem_map.1 hs
      exact (hf j (List.mem_range.1 hj)).2
end Ply

set_option maxRecDepth 100000 in
set_option maxHeartbeats 1000000 in
theorem law_great (l : List Ply.Ax) (a : Option Addr) (cap : Nat) (w : World) (h : Ply.ActsAt w a l) :
    Calls Try.prog 16 #[.slice a l.length cap] w fun e w' => w' = w ∧ ((e = .returned (.bool true) ∧ ¬ (l.length ≤ 60 ∧ ∀ s ∈ l, s.S.length ≤ 300 ∧ s.f.body.length ≤ 300)) ∨ (e = .returned (.bool false) ∧ l.length ≤ 60 ∧ ∀ s ∈ l, s.S.length ≤ 300 ∧ s.f.body.length ≤ 300)) := by
  by_cases hlong : 60 < l.length
  · have hl2 : (60 : Int) < (l.length : Int) := by omega
    have HLG := Lib.hid hlong
    clear h hlong
    go_enter Try.func16, Try.ntmps16
    go_wp2
    go_ret
    exact ⟨rfl, .inl ⟨rfl, fun h => absurd h.1 (by have := HLG.out; omega)⟩⟩
  · have hl2 : ¬ (60 : Int) < (l.length : Int) := by omega
    have H := Lib.hid h
    have HL := Lib.hid hlong
    obtain ⟨n, hn⟩ : ∃ n, l.length = n := ⟨_, rfl⟩
    rw [hn] at hl2 ⊢
    have HN := Lib.hid hn
    clear h hlong hn
    go_enter Try.func16, Try.ntmps16
    go_wp2
    go_loop [3] (fun i => ∃ k : Nat, k ≤ n ∧ i = .int .i64 k ∧ ∀ s ∈ l.take k, s.S.length ≤ 300 ∧ s.f.body.length ≤ 300) (fun i => n - (intOf i).toNat)
    case atStart => exact ⟨0, by omega, rfl, fun s hs => by simp at hs⟩
    case round =>
      obtain ⟨k, hk, rfl, hpre⟩ := hrel
      by_cases hlt : k < n
      · obtain ⟨s, hs⟩ : ∃ s, l[k]? = some s := ⟨_, List.getElem?_eq_getElem (by rw [HN.out]; exact hlt)⟩
        obtain ⟨b, o, rfl, hat⟩ := H.out (by rw [HN.out]; omega)
        have c1 := hat k s hs 1 _ rfl
        have c6 := hat k s hs 6 _ rfl
        have hlt2 : (k : Int) < (n : Int) := by omega
        have hsz : (Mem.str s.S).size = s.S.length := Mem.str_size s.S
        have hsz2 : (Mem.str s.f.body).size = s.f.body.length := Mem.str_size s.f.body
        have HS := Lib.hid hs
        have HPRE := Lib.hid hpre
        have HAT := Lib.hid hat
        clear hs hpre hat
        have htk : ∀ s' ∈ l.take (k + 1), s' ∈ l.take k ∨ s' = s := fun s' hs' => by
          rw [List.take_add_one, HS.out] at hs'
          rcases List.mem_append.1 hs' with h | h
          · exact .inl h
          · exact .inr (by simpa using h)
        by_cases h100 : 300 < s.S.length
        · have h100i : (300 : Int) < (s.S.length : Int) := by omega
          have H100 := Lib.hid h100
          go_wp2
          go_ret
          refine ⟨rfl, .inl ⟨rfl, ?_⟩⟩
          have hq := H100.out
          have hmem := List.mem_of_getElem? HS.out
          first
            | exact fun h => absurd (h.2 s hmem).1 (by omega)
            | exact fun _ h2 => absurd (h2 s hmem).1 (by omega)
            | exact fun _ => ⟨s, hmem, fun h3 => by omega⟩
        · have h100i : ¬ (300 : Int) < (s.S.length : Int) := by omega
          by_cases h200 : 300 < s.f.body.length
          · have h200i : (300 : Int) < (s.f.body.length : Int) := by omega
            have H200 := Lib.hid h200
            go_wp2
            go_ret
            refine ⟨rfl, .inl ⟨rfl, ?_⟩⟩
            have hq := H200.out
            have hmem := List.mem_of_getElem? HS.out
            first
              | exact fun h => absurd (h.2 s hmem).2 (by omega)
              | exact fun _ h2 => absurd (h2 s hmem).2 (by omega)
              | exact fun _ => ⟨s, hmem, fun h3 => by omega⟩
          · have h200i : ¬ (300 : Int) < (s.f.body.length : Int) := by omega
            have HTK := Lib.hid htk
            have HLE := Lib.hid (show s.S.length ≤ 300 ∧ s.f.body.length ≤ 300 by omega)
            clear htk
            go_wp2
            go_round
            case measure => simp [intOf]; omega
            case rel =>
            refine ⟨k + 1, hlt, by go_num, fun s' hs' => ?_⟩
            rcases HTK.out s' hs' with h | rfl
            · exact HPRE.out s' h
            · exact HLE.out
      · have hkn : k = n := by omega
        subst hkn
        have HPRE := Lib.hid hpre
        clear hpre
        go_wp2
        go_ret
        have := HL.out
        refine ⟨rfl, .inr ⟨rfl, by rw [← HN.out]; omega, fun s hs => HPRE.out s ?_⟩⟩
        rw [List.take_of_length_le (by rw [HN.out]; exact Nat.le_refl _)]
        exact hs
end Go.Proofs.Ytgkadhogfejheaa
