/-
  Contracts of the laws' helpers markText, markStringS, heldStringS.
-/
import Derived.Test.YtkkhaamklbolmaaStrEq
import Derived.Laws.Concat
import Derived.Laws.BytesArg
import Derived.Lib.ItoaNum
import Derived.Lib.ItoaLen
import Derived.Lib.Hide
import Derived.Lib.QuietBelow
namespace Go.Proofs.Ytkkhaamklbolmaa
open Go.RowKit Go.Lib
set_option linter.unusedVariables false
set_option linter.unusedSimpArgs false

/-- the mark number n -/
def markB (n : Nat) : ByteArray := ⟨(109 :: decDigits n).toArray⟩
def dgB (d : Nat) : ByteArray := ⟨#[UInt8.ofNat (48 + d)]⟩
/-- what markText's loop keeps -/
def MtRel (n u : Nat) (z : ByteArray) : Prop := (if u = 0 then z.data.toList else decDigits u ++ z.data.toList) = decDigits n ∧ z.size ≤ 20
theorem mt_start {n : Nat} (h : n ≠ 0) : MtRel n n ⟨#[]⟩ := ⟨by rw [if_neg h]; exact List.append_nil _, Nat.zero_le _⟩
theorem mt_size (s : ByteArray) : s.size = s.data.toList.length := (Array.length_toList (xs := s.data)).symm
theorem mt_step {n u : Nat} {z : ByteArray} (hn : n < 18446744073709551616) (hu : u ≠ 0) (h : MtRel n u z) : MtRel n (u / 10) (dgB (u % 10) ++ z) := by
  obtain ⟨k, h3⟩ := h
  rw [if_neg hu] at k
  have e : (dgB (u % 10) ++ z).data.toList = UInt8.ofNat (48 + u % 10) :: z.data.toList := by simp [dgB, ByteArray.data_append]
  have hl := congrArg List.length k
  have h20 := nDigits_le20 n hn
  rw [← decDigits_length] at h20
  have hs : (dgB (u % 10) ++ z).size ≤ 20 := by
    rw [mt_size, e, List.length_cons]
    rw [List.length_append] at hl
    have h1 : 1 ≤ (decDigits u).length := by rw [decDigits_length]; exact nDigits_pos u
    rw [← mt_size] at *
    omega
  refine ⟨?_, hs⟩
  rw [e]
  by_cases h10 : u < 10
  · rw [decDigits_one h10] at k
    rw [if_pos (by omega), ← k, show u % 10 = u by omega]
    rfl
  · rw [if_neg (by omega), ← k]
    conv => rhs; rw [decDigits, dif_neg h10]
    simp
theorem mt_end {n : Nat} {z : ByteArray} (h : MtRel n 0 z) : (⟨#[109]⟩ : ByteArray) ++ z = markB n := by
  have k := h.1
  rw [if_pos rfl] at k
  apply ByteArray.ext
  apply Array.toList_inj.1
  show _ = 109 :: decDigits n
  rw [ByteArray.data_append, ← k]
  simp
theorem conv_dg {d : Nat} (h : d < 10) (w : World) : (convert 46 9 (.slice (some ⟨w.heap.size, 0, none⟩) 1 1)).run Try.prog (w.alloc (.cells #[.int .u8 (48 + (d : Int))] 5)) = .ok (.string (dgB d)) (w.alloc (.cells #[.int .u8 (48 + (d : Int))] 5)) := by
  have e := run_convert_bytes_arg (P := Try.prog) (w.alloc (.cells #[.int .u8 (48 + (d : Int))] 5)) 46 5 Try.underlying46 Try.underlying5 w.heap.size 0 1 1 [48 + (d : Int)] rfl (fun i hi => by
    obtain rfl : i = 0 := by omega
    simp [World.cell?_alloc_new]) 9 Try.underlying9
  rw [e]
  rcases (by omega : d = 0 ∨ d = 1 ∨ d = 2 ∨ d = 3 ∨ d = 4 ∨ d = 5 ∨ d = 6 ∨ d = 7 ∨ d = 8 ∨ d = 9) with rfl | rfl | rfl | rfl | rfl | rfl | rfl | rfl | rfl | rfl <;> rfl
set_option maxRecDepth 20000 in
set_option maxHeartbeats 1000000 in
theorem markText_any (n : Nat) (w : World) (hn0 : n ≠ 0) (hn : n ≤ 1000000000000) :
    Calls Try.prog 60 #[.int .i64 (n : Int)] w fun e w' => e = .returned (.string (markB n)) ∧ Below w.heap.size w w' := by
  have hp : ¬ (n : Int) ≤ 0 := by omega
  go_enter Try.func60, Try.ntmps60
  go_wp2_with fail
  go_loopw [0, 3] (fun x s wr => ∃ (u : Nat) (z : ByteArray), x = .int .i64 (u : Int) ∧ s = .string z ∧ u ≤ n ∧ MtRel n u z ∧ Below w.heap.size w wr) (fun x _ _ => (intOf x).toNat)
  case atStart => exact ⟨n, _, rfl, rfl, Nat.le_refl _, mt_start hn0, Below.refl _ _⟩
  case round =>
    obtain ⟨u, z, rfl, rfl, hun, hrel, hb⟩ := hrel
    have hz : z.size ≤ 20 := hrel.2
    have HR := Lib.hid hrel
    have HB := Lib.hid hb
    clear hrel hb
    by_cases hu : u = 0
    · subst hu
      have e := mt_end HR.out
      have a1 := run_string_add_sum (P := Try.prog) wr ⟨#[109]⟩ z (by show 1 + z.size ≤ _; omega)
      have E := Lib.hid e
      clear e
      go_wp2_with fail
      go_ret
      exact ⟨by show Ending.returned (.string (_ ++ _)) = _; rw [E.out], HB.out⟩
    · have hu0 : 0 < (u : Int) := by omega
      obtain ⟨d, hd⟩ : ∃ d, d = u % 10 := ⟨_, rfl⟩
      obtain ⟨v, hv⟩ : ∃ v, v = u / 10 := ⟨_, rfl⟩
      have d0 : ((u : Int) % 10) = (d : Int) := by omega
      have d1 : ((u : Int) / 10) = (v : Int) := by omega
      have d2 : d < 10 := by omega
      have hz2 : (dgB d).size + z.size ≤ 9223372036854775807 := by show 1 + z.size ≤ _; omega
      have uw : IntKind.u8.wrap (48 + (d : Int)) = 48 + (d : Int) := by
        have e : IntKind.u8.signed = false := rfl
        have e2 : IntKind.u8.bits = 8 := rfl
        simp [IntKind.wrap, e, e2]
        omega
      have kc := conv_dg d2
      have ks := mt_step (by omega) hu HR.out
      rw [← hd, ← hv] at ks
      have KS := Lib.hid ks
      have HV := Lib.hid hv
      have hsum : ∀ w : World, (Op.stringOp .add (dgB d) z).run Try.prog w = .ok (.string (dgB d ++ z)) w := fun w => run_string_add_sum (P := Try.prog) w (dgB d) z hz2
      clear hd hv ks hz2
      go_wp2_with fail
      go_roundw
      case rel => exact ⟨v, _, rfl, rfl, by have := HV.out; omega, KS.out, HB.out.alloc HB.out.size _⟩
      case measure => simp [intOf]; have := HV.out; omega
/-- marks from k on -/
def markF (k : Nat) (i : Nat) : ByteArray := markB (k + i)
theorem markStringS_any (w : World) (g n cap k : Nat) (f : Nat → Value) (h : Row w g 9 n f) (hn : n ≤ 1048577) (hc : n ≤ cap) (hk0 : 1 ≤ k) (hk : k ≤ 1000000000) :
    Calls Try.prog 22 #[.slice (some ⟨g, 0, none⟩) n cap, .int .i64 (k : Int)] w fun e w' => e = .returned (.int .i64 ((k + n : Nat) : Int)) ∧ Row w' g 9 n (fun i => .string (markF k i)) ∧ w.grownBy w' (some g) := by
  have H := Lib.hid h
  clear h
  go_enter Try.func22, Try.ntmps22
  go_wp2_with fail
  go_loopw [1, 5] (fun q i wr => ∃ j : Nat, j ≤ n ∧ i = .int .i64 (j : Int) ∧ q = .int .i64 ((k + j : Nat) : Int) ∧ Row wr g 9 n (fun x => if x < j then .string (markF k x) else f x) ∧ w.grownBy wr (some g)) (fun _ i _ => n - (intOf i).toNat)
  case atStart => exact ⟨0, Nat.zero_le _, rfl, by simp, H.out.congr (fun i _ => by simp), World.grownBy.refl _ _⟩
  case round =>
    obtain ⟨j, hj, rfl, rfl, hrow, hgr⟩ := hrel
    by_cases hlt : j < n
    · have hlt' : (j : Int) < (n : Int) := by omega
      obtain ⟨m, hm⟩ : ∃ m, m = k + j := ⟨_, rfl⟩
      rw [← hm]
      have hm0 : m ≠ 0 := by omega
      have hm1 : m ≤ 1000000000000 := by omega
      have HM := Lib.hid hm
      have HR := Lib.hid hrow
      have HG := Lib.hid hgr
      clear hrow hm hgr
      go_wp2_with fail
      refine (markText_any m _ hm0 hm1).mono ?_; rintro e w1 ⟨rfl, hb1⟩
      have hrow := HR.out.call hb1
      have hg := hrow.cell hlt
      rw [if_neg (by omega)] at hg
      have hf := hrow.frozen j
      have HR1 := Lib.hid hrow
      have HG1 := Lib.hid (grown_call HG.out hb1)
      clear hrow hb1
      go_wp2_with fail
      go_roundw
      case rel =>
        refine ⟨j + 1, by omega, by go_num, ?_, (HR1.out.set j _).congr (fun x hx => ?_), grown_setCell HG1.out (.inl rfl) _⟩
        · have := HM.out
          go_num
        · by_cases e : x = j
          · subst e; simp [markF, HM.out]
          · simp only [if_neg e]
            by_cases e2 : x < j
            · rw [if_pos e2, if_pos (by omega)]
            · rw [if_neg e2, if_neg (by omega)]
      case measure => simp [intOf]; omega
    · obtain rfl : j = n := by omega
      have HR := Lib.hid hrow
      clear hrow
      go_wp2_with fail
      go_ret
      exact ⟨rfl, HR.out.congr (fun x hx => by rw [if_pos hx]), hgr⟩
theorem heldStringS_yes (w : World) (A : Option Addr) (n cap k : Nat) (h : StrsF w A n cap (markF k)) (hn : n ≤ 1048577) (hk0 : 1 ≤ k) (hk : k ≤ 1000000000) :
    Calls Try.prog 23 #[.slice A n cap, .int .i64 (k : Int)] w fun e w' => e = .returned (.int .i64 ((k + n : Nat) : Int)) ∧ Below w.heap.size w w' := by
  have H := Lib.hid h
  clear h
  go_enter Try.func23, Try.ntmps23
  go_wp2_with fail
  go_loopw [1, 5] (fun q i wr => ∃ j : Nat, j ≤ n ∧ i = .int .i64 (j : Int) ∧ q = .int .i64 ((k + j : Nat) : Int) ∧ Below w.heap.size w wr) (fun _ i _ => n - (intOf i).toNat)
  case atStart => exact ⟨0, Nat.zero_le _, rfl, by simp, Below.refl _ _⟩
  case round =>
    obtain ⟨j, hj, rfl, rfl, hbe⟩ := hrel
    have BE := Lib.hid hbe
    clear hbe
    by_cases hlt : j < n
    · have hlt' : (j : Int) < (n : Int) := by omega
      obtain ⟨m, hm⟩ : ∃ m, m = k + j := ⟨_, rfl⟩
      obtain ⟨b, o, rfl, hB, hc⟩ := (H.out.call BE.out).cell hlt
      have hm0 : m ≠ 0 := by omega
      have hm1 : m ≤ 1000000000000 := by omega
      unfold markF at hc
      rw [← hm] at hc ⊢
      have gc := fun d os => cell_regrown hc d os
      have hne : ((markB m).toList != (markB m).toList) = false := by simp
      have HM := Lib.hid hm
      clear hm
      go_wp2_with fail
      refine wp_region_quiet_below (by kernel_rfl) (by kernel_rfl) ?_
      repeat (first | go_big_quiet_step ((go_at_call 60; exact Calls.regrown_of (markText_any _ _ hm0 hm1))) | quiet_step ((go_at_call 60; exact Calls.regrown_of (markText_any _ _ hm0 hm1))))
      refine wpQuiet_nil ?_
      intro _ hw'
      obtain ⟨⟨dq, osq⟩, hw''⟩ := hw'
      subst hw''
      have BE2 := Lib.hid (BE.out.trans ((below_regrown wr dq osq).mono BE.out.size))
      go_wp2_with fail
      go_roundw
      case rel => exact ⟨j + 1, by omega, by go_num, by have := HM.out; go_num, BE2.out⟩
      case measure => simp [intOf]; omega
    · obtain rfl : j = n := by omega
      go_wp2_with fail
      go_ret
      exact ⟨rfl, BE.out⟩
end Go.Proofs.Ytkkhaamklbolmaa
