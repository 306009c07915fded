/-
  Contracts of DrawJoinWords and DrawSplitWords, of sameTexts.
-/
import Derived.Test.YtefofijdpacleaaDoorPick
import Derived.Test.YtefofijdpacleaaDoorSplit2
namespace Go.Proofs.YtefofijdpacleaaDoor
open Go.RowKit
set_option linter.unusedVariables false
set_option linter.unusedSimpArgs false

theorem str_type : ∃ i, Tryd.prog.info? 9 = some i ∧ i.zero = some (.string ByteArray.empty) ∧ i.size = 1 ∧ i.bytes = 16 := by
  have h := str_info
  obtain ⟨i, hi, h2⟩ := Option.map_eq_some_iff.1 h
  injection h2 with h2 h3
  injection h3 with h3 h4
  exact ⟨i, hi, h2, h3, h4⟩
theorem short_lit {w : World} {T : TypeId} {xs : Array Value} {m n : Nat} (hn : xs.size = n) (h : ∀ v ∈ xs.toList, ∃ z : ByteArray, v = .string z ∧ z.size ≤ m) :
    ∀ j, j < n → ∃ z : ByteArray, (w.alloc (.cells xs T)).cell? ⟨w.heap.size, j, none⟩ = some (.string z) ∧ Short m (.string z) :=
  pick_str (P := Short m) hn (fun v hv => by
    obtain ⟨z, e, hz⟩ := h v hv
    exact ⟨z, e, z, e, hz⟩)
set_option maxRecDepth 20000 in
set_option maxHeartbeats 1000000 in
theorem drawJoinWords_any (w : World) (A : Option Addr) (len cap : Nat) (hb : Bytes w A len) :
    Calls Tryd.prog 20 #[.slice A len cap] w fun e w' => ∃ (l : List ByteArray) (v : Value), e = .returned v ∧ OwnV w.heap.size w' 9 1 v l.length (lstC l) ∧ (∀ x ∈ l, x.size ≤ 8) ∧ l.length ≤ 8 ∧ Below w.heap.size w w' := by
  obtain ⟨i0, hi, hz0, hz1, hz2⟩ := str_type
  go_enter Tryd.func20, Tryd.ntmps20
  go_wp2_with fail
  refine (l1New_any _ _ _ _ hb).mono ?_
  rintro e w1 ⟨g, rfl, c1, b1⟩
  have hg1 := c1.lt
  have hg0 := c1.base
  have b1' := b1.alloc b1.size (.cells #[] 9)
  have c1' := c1.alloc (.cells #[] 9)
  have o1 : OwnV w.heap.size (w1.alloc (.cells #[] 9)) 9 1 (.slice (some ⟨w1.heap.size, 0, none⟩) 0 0) 0 (lstC []) := OwnV.lit w1 b1.size _ 1 0 #[] _ (by simp [flat]) (by omega)
  have hne1 : (Value.slice (some ⟨w1.heap.size, 0, none⟩) 0 0).ownBlock ≠ some g := by simp [Value.ownBlock]; omega
  go_wp2_with fail
  refine (l1Below_any w.heap.size g _ 5 c1' (by omega) (by omega)).mono ?_
  rintro e w2 ⟨v, rfl, ⟨x, rfl, hx0, hx1⟩, c2, hg2⟩
  have b2 := b1'.trans (grown_below hg2 hg0 b1'.size)
  have o2 := o1.grown hg2 (.inr hne1)
  obtain ⟨m, rfl⟩ : ∃ m : Nat, x = (m : Int) := ⟨x.toNat, by omega⟩
  have C2 := Lib.hid c2
  have B2 := Lib.hid b2
  have O2 := Lib.hid o2
  have N2 := Lib.hid hne1
  clear c1 c1' b1 b1' o1 hg2 c2 b2 o2 hne1 hg1
  go_wp2_with fail
  go_loopw [4, 5] (fun ov iv wr => ∃ (k : Nat) (l : List ByteArray), iv = .int .i64 (k : Int) ∧ k + l.length ≤ 5 ∧ (∀ x ∈ l, x.size ≤ 8) ∧ OwnV w.heap.size wr 9 1 ov l.length (lstC l) ∧ ov.ownBlock ≠ some g ∧ Cur w.heap.size wr g ∧ Below w.heap.size w wr) (fun _ iv _ => (intOf iv).toNat)
  case atStart => exact ⟨m, [], rfl, by simp; omega, fun x h => by simp at h, O2.out, N2.out, C2.out, B2.out⟩
  case round =>
    obtain ⟨k, l, rfl, hk, hl, hown, hne, hcur, hbe⟩ := hrel
    obtain ⟨Ao, co, rfl, _, _⟩ := hown.slice
    have HL := Lib.hid hl
    have HN := Lib.hid hne
    have HO := Lib.hid hown
    have HC := Lib.hid hcur
    have HB := Lib.hid hbe
    clear hl hne hown hcur hbe
    by_cases hk0 : k = 0
    · subst hk0
      have hn : ¬ (0 : Int) < ((0 : Nat) : Int) := by omega
      go_wp2_with fail
      go_ret
      exact ⟨l, _, rfl, HO.out, HL.out, by omega, HB.out⟩
    · have hn : 0 < (k : Int) := by omega
      have hlt := HC.out.lt
      go_wp2_with fail
      refine (l1Pick_any w.heap.size g wr.heap.size 5 5 _ (Short 8) ?c1 ?c2 ?c3 ?c4 ?c5 ?c6).mono ?_
      case c1 => exact HC.out.alloc _
      case c2 => omega
      case c3 => omega
      case c4 => omega
      case c5 => simp
      case c6 =>
        refine short_lit rfl ?_
        intro v hv
        simp at hv
        rcases hv with rfl | rfl | rfl | rfl | rfl <;> exact ⟨_, rfl, by decide⟩
      rintro e w3 ⟨v, rfl, ⟨z, rfl, hz⟩, c3, hg3⟩
      have O3 := Lib.hid ((HO.out.alloc (.cells #[.string ⟨#[65]⟩, .string ⟨#[49, 50]⟩, .string ⟨#[112, 108, 97, 110]⟩, .string ⟨#[97, 32, 98]⟩, .string ⟨#[]⟩] 9)).grown hg3 (.inr HN.out))
      have B3 := Lib.hid ((HB.out.alloc HB.out.size (.cells #[.string ⟨#[65]⟩, .string ⟨#[49, 50]⟩, .string ⟨#[112, 108, 97, 110]⟩, .string ⟨#[97, 32, 98]⟩, .string ⟨#[]⟩] 9)).trans (grown_below hg3 hg0 (by have := HB.out.size; simp; omega)))
      have C3 := Lib.hid c3
      have hlt3 := c3.lt
      clear c3 hg3
      go_wp2_with (at_builtin; refine appS w3 rfl _ _ 31 rfl (B := w.heap.size) (i := i0) (z := .string ByteArray.empty) (s := 1) (bytes := 16) (F := lstC (l ++ [z])) (v := .slice Ao l.length co) (n := l.length) (xs := #[.string z]) Tryd.underlying31 hi hz0 hz1 hz2 rfl (by decide) rfl (O3.out.congr (fun a b ha hb => lstC_app _ _ ha)) B3.out.size rfl (fun q hq => by obtain rfl : q = 0 := (by omega); simp [lstC_new]) (fun q hq => by rw [lstC_new]; rfl) (by omega) (by decide) ?_)
      intro v7 w7 hv7 hg7 hb7
      obtain ⟨A7, p7, rfl, _, _⟩ := hv7.slice
      have hne7 : (Value.slice A7 (l.length + 1) p7).ownBlock ≠ some g := by
        rcases hb7 with e | ⟨k', e, hk'⟩
        · rw [e]; exact HN.out
        · rw [e]; intro h; injection h; omega
      have C7 := Lib.hid (C3.out.own hg7 (fun r hr => ⟨(O3.out.lt hr).1, fun e => HN.out (by rw [hr, e])⟩))
      have B7 := Lib.hid (below_own B3.out hg7 (fun r hr => (O3.out.lt hr).1) B3.out.size)
      have V7 := Lib.hid hv7
      have N7 := Lib.hid hne7
      clear hv7 hg7 hb7 hne7
      go_wp2_with fail
      go_roundw
      case rel => exact ⟨k - 1, l ++ [z], by go_num, by simp; omega, fun x hx => (by
          rcases List.mem_append.1 hx with h | h
          · exact HL.out x h
          · obtain rfl := List.mem_singleton.1 h; exact hz), by rw [List.length_append]; exact V7.out, N7.out, C7.out, B7.out⟩
      case measure => simp [intOf]; omega
set_option maxRecDepth 20000 in
set_option maxHeartbeats 1000000 in
theorem drawSplitWords_any (w : World) (A : Option Addr) (len cap : Nat) (hb : Bytes w A len) :
    Calls Tryd.prog 23 #[.slice A len cap] w fun e w' => ∃ s : ByteArray, e = .returned (.string s) ∧ s.size ≤ 64 ∧ Below w.heap.size w w' := by
  go_enter Tryd.func23, Tryd.ntmps23
  go_wp2_with fail
  refine (l1New_any _ _ _ _ hb).mono ?_
  rintro e w1 ⟨g, rfl, c1, b1⟩
  have hg0 := c1.base
  go_wp2_with fail
  refine (l1Below_any w.heap.size g _ 6 c1 (by omega) (by omega)).mono ?_
  rintro e w2 ⟨v, rfl, ⟨x, rfl, hx0, hx1⟩, c2, hg2⟩
  have b2 := b1.trans (grown_below hg2 hg0 b1.size)
  obtain ⟨m, rfl⟩ : ∃ m : Nat, x = (m : Int) := ⟨x.toNat, by omega⟩
  have C2 := Lib.hid c2
  have B2 := Lib.hid b2
  clear c1 b1 hg2 c2 b2
  go_wp2_with fail
  go_loopw [4, 5] (fun sv iv wr => ∃ (k : Nat) (s : ByteArray), iv = .int .i64 (k : Int) ∧ k ≤ 5 ∧ sv = .string s ∧ s.size + 8 * k ≤ 40 ∧ Cur w.heap.size wr g ∧ Below w.heap.size w wr) (fun _ iv _ => (intOf iv).toNat)
  case atStart => exact ⟨m, _, rfl, by omega, rfl, by show 0 + 8 * m ≤ 40; omega, C2.out, B2.out⟩
  case round =>
    obtain ⟨k, s, rfl, hk, rfl, hs, hcur, hbe⟩ := hrel
    have HC := Lib.hid hcur
    have HB := Lib.hid hbe
    clear hcur hbe
    by_cases hk0 : k = 0
    · subst hk0
      have hn : ¬ (0 : Int) < ((0 : Nat) : Int) := by omega
      go_wp2_with fail
      go_ret
      exact ⟨s, rfl, by omega, HB.out⟩
    · have hn : 0 < (k : Int) := by omega
      have hlt := HC.out.lt
      go_wp2_with fail
      refine (l1Pick_any w.heap.size g wr.heap.size 6 6 _ (Short 8) ?c1 ?c2 ?c3 ?c4 ?c5 ?c6).mono ?_
      case c1 => exact HC.out.alloc _
      case c2 => omega
      case c3 => omega
      case c4 => omega
      case c5 => simp
      case c6 =>
        refine short_lit rfl ?_
        intro v hv
        simp at hv
        rcases hv with rfl | rfl | rfl | rfl | rfl | rfl <;> exact ⟨_, rfl, by decide⟩
      rintro e w3 ⟨v, rfl, ⟨z, rfl, hz⟩, c3, hg3⟩
      have hB0 := HB.out.alloc HB.out.size (.cells #[.string ⟨#[65]⟩, .string ⟨#[49, 50]⟩, .string ⟨#[32]⟩, .string ⟨#[120, 32]⟩, .string ⟨#[112, 108, 97, 110, 32]⟩, .string ⟨#[32, 32]⟩] 9)
      have B3 := Lib.hid (hB0.trans (grown_below hg3 hg0 hB0.size))
      have C3 := Lib.hid c3
      have a1 := run_string_add_sum (P := Tryd.prog) w3 s z (by omega)
      have hsz : (s ++ z).size ≤ s.size + 8 := by rw [ByteArray.size_append]; omega
      clear c3 hg3 hB0
      go_wp2_with fail
      go_roundw
      case rel => exact ⟨k - 1, _, by go_num, by omega, rfl, by omega, C3.out, B3.out⟩
      case measure => simp [intOf]; omega
/-- two slices that read alike -/
theorem sameTexts_same (w : World) (A A' : Option Addr) (n cap cap' : Nat) (f : Nat → ByteArray) (h : StrsF w A n cap f) (h' : StrsF w A' n cap' f) :
    Calls Tryd.prog 22 #[.slice A n cap, .slice A' n cap'] w fun e w' => e = .returned (.bool true) ∧ ∃ m, w' = w.drewN m := by
  have hn := h.le
  have H := Lib.hid h
  have H' := Lib.hid h'
  clear h h'
  go_enter Tryd.func22, Tryd.ntmps22
  go_wp2_with fail
  go_loopw [5] (fun i wr => ∃ k m : Nat, k ≤ n ∧ i = .int .i64 (k : Int) ∧ wr = w.drewN m) (fun i _ => n - (intOf i).toNat)
  case atStart => exact ⟨0, 0, Nat.zero_le _, rfl, rfl⟩
  case round =>
    obtain ⟨k, m, hk, rfl, rfl⟩ := hrel
    by_cases hlt : k < n
    · have hlt' : (k : Int) < (n : Int) := by omega
      obtain ⟨b, o, rfl, hB, hc⟩ := H.out.cell hlt
      obtain ⟨b', o', rfl, hB', hc'⟩ := H'.out.cell hlt
      go_wp2_with fail
      go_quiet (fail)
      go_wp2_with fail
      go_roundw
      case rel => exact ⟨k + 1, m + nq, by omega, by go_num, rfl⟩
      case measure => simp [intOf]; omega
    · obtain rfl : k = n := by omega
      go_wp2_with fail
      go_ret
      exact ⟨rfl, m, rfl⟩
end Go.Proofs.YtefofijdpacleaaDoor
