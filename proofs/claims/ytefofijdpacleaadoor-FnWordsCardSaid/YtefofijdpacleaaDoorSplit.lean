/-
  Contracts of the reference's and the program's SplitWords.
-/
import Derived.Test.YtefofijdpacleaaDoorSplitNum
import Derived.Test.YtefofijdpacleaaDoorMarkT
import Derived.Test.YtefofijdpacleaaDoorShelf4D
import Derived.Lib.SmallJoins
namespace Go.Proofs.YtefofijdpacleaaDoor
open Go.RowKit
open Go.Lib (splitB countB)
set_option linter.unusedVariables false
set_option linter.unusedSimpArgs false

/-- the library's variable holds some number -/
def CntOk (w : World) : Prop := 3 < w.heap.size ∧ ∃ m, w.cell? ⟨3, 0, none⟩ = some (.int .i64 m)
theorem CntOk.call {w w' : World} (h : CntOk w) (hb : Below w.heap.size w w') : CntOk w' := by
  obtain ⟨h0, m, h1⟩ := h
  exact ⟨Nat.lt_of_lt_of_le h0 hb.size, m, (hb.cell (p := ⟨3, 0, none⟩) h0).trans h1⟩
/-- what a list of texts holds in its cells -/
def lstC (l : List ByteArray) (j q : Nat) : Value := .string (l.getD j ByteArray.empty)
theorem lstC_strC (s : ByteArray) : lstC (wsB s) = strC (wordAt s) := rfl
theorem lstC_app (l : List ByteArray) (x : ByteArray) {j q : Nat} (h : j < l.length) : lstC l j q = lstC (l ++ [x]) j q := by
  simp [lstC, List.getD_eq_getElem?_getD, List.getElem?_append_left h]
theorem lstC_new (l : List ByteArray) (x : ByteArray) (q : Nat) : lstC (l ++ [x]) l.length q = .string x := by
  simp [lstC, List.getD_eq_getElem?_getD]
def strV (A : Option Addr) (n cap : Nat) (b : Bool) : Value := .tuple #[.slice A n cap, .bool b]
/-- what SplitWords gives -/
def SplitPost (s : ByteArray) (w : World) (e : Ending) (w' : World) : Prop :=
  (Full s ∧ ∃ A cap, e = .returned (strV A (wsB s).length cap true) ∧ StrsF w' A (wsB s).length cap (wordAt s) ∧ Below w.heap.size w w') ∨
  (¬ Full s ∧ ∃ A cap, cap ≤ 9223372036854775807 ∧ e = .returned (strV A 0 cap (decide (s.size = 0))) ∧ Below w.heap.size w w')
theorem strsF_of {w : World} {s : ByteArray} {B : Nat} {v : Value} (hs : s.size ≤ 1048576) (h : OwnV B w 9 1 v (wsB s).length (lstC (wsB s))) : ∃ A cap, v = .slice A (wsB s).length cap ∧ StrsF w A (wsB s).length cap (wordAt s) := by
  obtain ⟨A, cap, hv, hS, _⟩ := h.slice
  refine ⟨A, cap, hv, hS, fun i hi => ?_⟩
  have h1 := wordAt_get hi
  have h2 := word_size s _ (List.mem_of_getElem? h1)
  omega
theorem empty_size (s : ByteArray) : s.toList.isEmpty = decide (s.size = 0) := by
  rw [ByteArray.toList_eq, size_list']
  cases s.data.toList <;> simp
theorem extract_size {s : ByteArray} {a b : Nat} (hb : b ≤ s.size) : (s.extract a b).size = b - a := by rw [ByteArray.size_extract]; omega
theorem u8_ne (x : UInt8) : ((x.toNat : Int) != 32) = decide (x ≠ 32) := by
  by_cases h : x = 32
  · subst h; rfl
  · have : (x.toNat : Int) ≠ 32 := fun e => h (UInt8.toNat_inj.1 (by show x.toNat = 32; omega))
    simp [h, this]
theorem SpRel.le {s : ByteArray} {k fr : Nat} {done : List ByteArray} (h : SpRel s k fr done) (hk : k ≤ s.size) : fr ≤ k := by
  rcases h with ⟨_, h2, _⟩ | ⟨h1, _⟩ <;> omega
theorem not_full {s : ByteArray} {k k' fr fr' : Nat} {done : List ByteArray} (hk : k ≤ s.size) (h : SpRel s k' fr' (done ++ [s.extract fr k])) (he : k = fr) : ¬ Full s := fun hf => by
  have := hf _ (sp_mem h)
  rw [extract_size hk] at this
  omega
set_option maxRecDepth 20000 in
set_option maxHeartbeats 2000000 in
theorem spec_SplitWords (s : ByteArray) (w : World) (hs : s.size ≤ 1048576) :
    Calls Tryd.prog 15 #[.string s] w (SplitPost s w) := by
  obtain ⟨i0, hi, hz0, hz1, hz2⟩ : ∃ i, Tryd.prog.info? 9 = some i ∧ i.zero = some (.string ByteArray.empty) ∧ i.size = 1 ∧ i.bytes = 16 := by
    have h := str_info
    obtain ⟨i, hi, h2⟩ := Option.map_eq_some_iff.1 h
    injection h2 with h2 h3
    injection h3 with h3 h4
    exact ⟨i, hi, h2, h3, h4⟩
  go_enter Tryd.func15, Tryd.ntmps15
  go_wp2_with fail
  go_loopw [4, 5, 6] (fun ov fv iv wr => ∃ (k fr : Nat) (done : List ByteArray), fv = .int .i64 (fr : Int) ∧ iv = .int .i64 (k : Int) ∧ SpRel s k fr done ∧ (∀ x ∈ done, x.size ≠ 0) ∧ OwnV w.heap.size wr 9 1 ov done.length (lstC done) ∧ Below w.heap.size w wr ∧ k ≤ s.size + 1 ∧ fr ≤ s.size + 1) (fun _ _ iv _ => s.size + 1 - (intOf iv).toNat)
  case atStart => exact ⟨0, 0, [], rfl, rfl, sp_start s, fun x h => by simp at h, OwnV.lit w (Nat.le_refl _) _ 1 0 #[] _ (by simp [flat]) (by omega), (Below.refl _ _).alloc (Nat.le_refl _) _, by omega, by omega⟩
  case round =>
    obtain ⟨k, fr, done, rfl, rfl, hrel, hne, hown, hbe, hk1, hf1⟩ := hrel
    obtain ⟨Ao, co, rfl, _, _⟩ := hown.slice
    have HR := Lib.hid hrel
    have HN := Lib.hid hne
    have HO := Lib.hid hown
    have HB := Lib.hid hbe
    clear hrel hne hown hbe
    by_cases hend : k = s.size + 1
    · have hle : ¬ (k : Int) ≤ (s.size : Int) := by omega
      have hd : done = wsB s := by rcases HR.out with ⟨h, _⟩ | ⟨_, h⟩
                                   · omega
                                   · exact h
      have HD := Lib.hid hd
      clear hd
      go_wp2_with fail
      go_ret2
      refine .inl ⟨fun x hx => HN.out x (by rw [HD.out]; exact hx), ?_⟩
      have ho := HO.out
      rw [HD.out] at ho
      obtain ⟨A, cap, e, hS⟩ := strsF_of hs ho
      exact ⟨A, cap, by rw [HD.out, e]; rfl, hS, HB.out⟩
    have hle : (k : Int) ≤ (s.size : Int) := by omega
    have hk : k ≤ s.size := by omega
    have hfr : fr ≤ k := HR.out.le hk
    have hdl : done.length ≤ 1048577 := by have := sp_len HR.out; have := wsB_le s; omega
    by_cases hlt : k < s.size
    · have hlt' : (k : Int) < (s.size : Int) := by omega
      by_cases hc : s[k] = 32
      · have hu : ((s[k].toNat : Int) != 32) = false := by rw [u8_ne]; simp [hc]
        have hnx := sp_cut HR.out hlt hc
        have HX := Lib.hid hnx
        clear hc hnx
        by_cases he : k = fr
        · subst he
          have hnf := not_full hk HX.out rfl
          have HF := Lib.hid hnf
          clear hnf
          go_wp2_with fail
          go_ret2
          exact .inr ⟨HF.out, some ⟨wr.heap.size, 0, none⟩, 0, by omega, by show Ending.returned (.tuple #[_, .bool s.toList.isEmpty]) = _; rw [empty_size]; rfl, HB.out.alloc HB.out.size _⟩
        · have he' : ((k : Int) == (fr : Int)) = false := by simp; omega
          have hx0 : (s.extract fr k).size ≠ 0 := by rw [extract_size hk]; omega
          have HX0 := Lib.hid hx0
          clear hx0
          go_wp2_with (at_builtin; refine appS wr rfl _ _ 31 rfl (B := w.heap.size) (i := i0) (z := .string ByteArray.empty) (s := 1) (bytes := 16) (F := lstC (done ++ [s.extract fr k])) (v := .slice Ao done.length co) (n := done.length) (xs := #[.string (s.extract fr k)]) Tryd.underlying31 hi hz0 hz1 hz2 rfl (by decide) rfl (HO.out.congr (fun a b ha hb => lstC_app _ _ ha)) HB.out.size rfl (fun q hq => by obtain rfl : q = 0 := (by omega); simp [lstC_new]) (fun q hq => by rw [lstC_new]; rfl) (by omega) (by decide) ?_)
          intro v7 w7 hv7 hg7 hb7
          obtain ⟨A7, p7, rfl, _, _⟩ := hv7.slice
          have B7 := Lib.hid (below_own HB.out hg7 (fun r hr => (HO.out.lt hr).1) HB.out.size)
          have V7 := Lib.hid hv7
          clear hv7 hg7 hb7
          go_wp2_with fail
          go_roundw
          case rel => exact ⟨k + 1, k + 1, done ++ [s.extract fr k], by go_num, by go_num, HX.out, fun x hx => (by
              rcases List.mem_append.1 hx with h | h
              · exact HN.out x h
              · obtain rfl := List.mem_singleton.1 h; exact HX0.out), by rw [List.length_append]; exact V7.out, B7.out, by omega, by omega⟩
          case measure => simp [intOf]; omega
      · have hu : ((s[k].toNat : Int) != 32) = true := by rw [u8_ne]; simp [hc]
        have hnx := sp_mid HR.out hlt hc
        have HX := Lib.hid hnx
        clear hc hnx
        go_wp2_with fail
        go_roundw
        case rel => exact ⟨k + 1, fr, done, rfl, by go_num, HX.out, HN.out, HO.out, HB.out, by omega, hf1⟩
        case measure => simp [intOf]; omega
    · obtain rfl : k = s.size := by omega
      have hlt' : ¬ (s.size : Int) < (s.size : Int) := by omega
      have hnx := sp_end HR.out hfr
      have HX := Lib.hid hnx
      clear hnx
      by_cases he : s.size = fr
      · have hnf := not_full hk HX.out he
        have HF := Lib.hid hnf
        clear hnf
        have he' : ((s.size : Int) == (fr : Int)) = true := by simp; omega
        go_wp2_with fail
        go_ret2
        exact .inr ⟨HF.out, some ⟨wr.heap.size, 0, none⟩, 0, by omega, by show Ending.returned (.tuple #[_, .bool s.toList.isEmpty]) = _; rw [empty_size]; rfl, HB.out.alloc HB.out.size _⟩
      · have he' : ((s.size : Int) == (fr : Int)) = false := by simp; omega
        have hx0 : (s.extract fr s.size).size ≠ 0 := by rw [extract_size hk]; omega
        have HX0 := Lib.hid hx0
        clear hx0
        go_wp2_with (at_builtin; refine appS wr rfl _ _ 31 rfl (B := w.heap.size) (i := i0) (z := .string ByteArray.empty) (s := 1) (bytes := 16) (F := lstC (done ++ [s.extract fr s.size])) (v := .slice Ao done.length co) (n := done.length) (xs := #[.string (s.extract fr s.size)]) Tryd.underlying31 hi hz0 hz1 hz2 rfl (by decide) rfl (HO.out.congr (fun a b ha hb => lstC_app _ _ ha)) HB.out.size rfl (fun q hq => by obtain rfl : q = 0 := (by omega); simp [lstC_new]) (fun q hq => by rw [lstC_new]; rfl) (by omega) (by decide) ?_)
        intro v7 w7 hv7 hg7 hb7
        obtain ⟨A7, p7, rfl, _, _⟩ := hv7.slice
        have B7 := Lib.hid (below_own HB.out hg7 (fun r hr => (HO.out.lt hr).1) HB.out.size)
        have V7 := Lib.hid hv7
        clear hv7 hg7 hb7
        go_wp2_with fail
        go_roundw
        case rel => exact ⟨s.size + 1, s.size + 1, done ++ [s.extract fr s.size], by go_num, by go_num, HX.out, fun x hx => (by
            rcases List.mem_append.1 hx with h | h
            · exact HN.out x h
            · obtain rfl := List.mem_singleton.1 h; exact HX0.out), by rw [List.length_append]; exact V7.out, B7.out, by omega, by omega⟩
        case measure => simp [intOf]
end Go.Proofs.YtefofijdpacleaaDoor
