/-
  Contracts of the reference's and the program's ParseInt; the law FnExactParseInt.
-/
import Derived.Test.YtefofijdpacleaaDoorParseNum
import Derived.Test.YtefofijdpacleaaDoorFmtLaw
import Derived.Lib.SmallJoins
namespace Go.Proofs.YtefofijdpacleaaDoor
open Go.RowKit Go.Sort Go.Joins
set_option linter.unusedVariables false
set_option linter.unusedSimpArgs false

/-- what the variables of Go's library hold, as the contracts ask for it -/
structure VarOk (w : World) : Prop where
  tab : TabOk w
  syn : ∃ tp p, w.var? Tryd.prog "strconv.ErrSyntax" = some #[.iface tp p]
  ran : ∃ tp p, w.var? Tryd.prog "strconv.ErrRange" = some #[.iface tp p]
theorem gSyn : Tryd.prog.globalNamed "strconv.ErrSyntax" = some 0 := by kernel_rfl
theorem gRan : Tryd.prog.globalNamed "strconv.ErrRange" = some 1 := by kernel_rfl
theorem gPow : Tryd.prog.globalNamed "internal/strconv.uint64pow10" = some 2 := by kernel_rfl
theorem VarOk.call {w w' : World} (h : VarOk w) (hb : Below w.heap.size w w') : VarOk w' := by
  obtain ⟨tp, p, h1⟩ := h.syn
  obtain ⟨tq, q, h2⟩ := h.ran
  exact ⟨tab_stays gPow h.tab hb (Nat.le_refl _), ⟨tp, p, var_stays gSyn h1 hb (Nat.le_refl _)⟩, ⟨tq, q, var_stays gRan h2 hb (Nat.le_refl _)⟩⟩
/-- a pair of results -/
def pairV (v : Int) (b : Bool) : Value := .tuple #[.int .i64 v, .bool b]
/-- what ParseInt gives -/
def ParPost (s : ByteArray) (e : Ending) : Prop := (∃ v, Good v s ∧ e = .returned (pairV v true)) ∨ ((∀ v, ¬ Good v s) ∧ e = .returned (pairV 0 false))
theorem rst_size (s : ByteArray) : (rst s).length = s.size - sgn s := by unfold rst; rw [List.length_drop, size_list]
theorem trim_size (s : ByteArray) : (⟨(rst s).toArray⟩ : ByteArray).size = (rst s).length := by rw [size_list]
/-- Atoi at a text that spells no numeral at all. (The library's constructor of that case bears a name that a claim's text may not bear: so it is said by what it is not.) -/
theorem atoi_none (s : ByteArray) (hlim : s.size ≤ 281474976710656) (h1 : ∀ v, Go.Lib.atoiAll s.data.toList ≠ .ok v) (h2 : Go.Lib.atoiAll s.data.toList ≠ .range) (tp : TypeId) (p : Value) (w : World) (hvar : w.var? Tryd.prog "strconv.ErrSyntax" = some #[.iface tp p]) :
    Calls Tryd.prog 25 #[.string s] w fun e w' => ∃ N, e = .returned (.tuple #[.int .i64 0, .iface 66 (.pointer (some ⟨N, 0, none⟩))]) ∧ w.heap.size ≤ N ∧ w'.heap[N]? = some (.cells #[.string ⟨#[65, 116, 111, 105]⟩, .string s, .iface tp p] 79 (0, 0)) ∧ Below w.heap.size w w' := by
  cases e : Go.Lib.atoiAll s.data.toList with
  | ok v => exact absurd e (h1 v)
  | range => exact absurd e h2
  | _ => exact Any.strconv_Atoi_syntax_var Tryd.laysC172 s hlim e tp p w hvar
set_option maxRecDepth 20000 in
set_option maxHeartbeats 1000000 in
theorem impl_ParseInt (s : ByteArray) (w : World) (hs : s.size ≤ 1048576) (hv : VarOk w) :
    Calls Tryd.prog 9 #[.string s] w fun e w' => ParPost s e ∧ Below w.heap.size w w' := by
  have HV := Lib.hid hv
  clear hv
  have et := trim_rst s
  have ez := trim_size s
  obtain ⟨D, hD⟩ : ∃ D : ByteArray, D = ⟨(rst s).toArray⟩ := ⟨_, rfl⟩
  rw [← hD] at ez
  have hc := (Tryd.strings_TrimPrefix s ⟨#[45]⟩ w)
  have e45 : (⟨#[45]⟩ : ByteArray).data.toList = [45] := rfl
  rw [e45, et, ← hD] at hc
  have HC := Lib.hid hc
  clear hc et hD e45
  by_cases h0 : (rst s).length < 1
  · have hbad : ∀ v, ¬ Good v s := fun v g => by have := g.parts; omega
    have t1 : (D.size : Int) < 1 := by omega
    have HB := Lib.hid hbad
    clear hbad ez h0
    go_enter Tryd.func9, Tryd.ntmps9
    go_wp2_with fail
    refine HC.out.mono ?_; rintro e w1 ⟨rfl, hw⟩; obtain rfl := hw.symm
    go_wp2_with fail
    go_ret2
    exact ⟨.inr ⟨HB.out, rfl⟩, Below.refl _ _⟩
  by_cases h12 : 12 < (rst s).length
  · have hbad : ∀ v, ¬ Good v s := fun v g => by have := g.parts; omega
    have t1 : ¬ (D.size : Int) < 1 := by omega
    have t2 : 12 < (D.size : Int) := by omega
    have HB := Lib.hid hbad
    clear hbad ez h0 h12
    go_enter Tryd.func9, Tryd.ntmps9
    go_wp2_with fail
    refine HC.out.mono ?_; rintro e w1 ⟨rfl, hw⟩; obtain rfl := hw.symm
    go_wp2_with fail
    go_ret2
    exact ⟨.inr ⟨HB.out, rfl⟩, Below.refl _ _⟩
  have t1 : ¬ (D.size : Int) < 1 := by omega
  have t2 : ¬ 12 < (D.size : Int) := by omega
  have H12 := Lib.hid h12
  clear ez h0 h12
  obtain ⟨r, hr⟩ : ∃ r, r = Go.Lib.atoiAll s.data.toList := ⟨_, rfl⟩
  cases r with
  | ok v =>
    have hbd := atoi_bd hr.symm
    have HR := Lib.hid hr
    clear hr
    go_enter Tryd.func9, Tryd.ntmps9
    go_wp2_with fail
    refine HC.out.mono ?_; rintro e w1 ⟨rfl, hw⟩; obtain rfl := hw.symm
    go_wp2_with fail
    refine (Tryd.strconv_Atoi_ok s (by omega) v HR.out.symm w).mono ?_
    rintro e w2 ⟨rfl, hw⟩
    have hb2 : Below w.heap.size w w2 := by
      rcases hw with rfl | ⟨t, rfl⟩
      · exact Below.refl _ _
      · exact below_bytesWorld _ _ _ _ (Nat.le_refl _)
    have B2 := Lib.hid hb2
    clear hw hb2
    obtain ⟨b1, b2⟩ := hbd
    go_wp2_with fail
    refine (Tryd.strconv_Itoa v b1 b2 _ (HV.out.call B2.out).tab).mono ?_
    rintro e w3 ⟨rfl, k, os, hw⟩
    have B3 := Lib.hid (B2.out.trans (by rw [hw]; exact Go.Lib.below_grow _ w2 B2.out.size k os : Below w.heap.size w2 w3))
    clear hw
    by_cases he : itoaS v = s
    · have hg := good_of he (by have := H12.out; omega)
      have t3 : (Go.Lib.itoa v == s.toList) = true := by
        have : s.toList = Go.Lib.itoa v := by rw [ByteArray.toList_eq, ← he]; rfl
        rw [this]; simp
      have HG := Lib.hid hg
      have HE := Lib.hid he
      clear hg he
      go_wp2_with fail
      go_ret2
      exact ⟨.inl ⟨v, HG.out, rfl⟩, B3.out⟩
    · have hbad : ∀ u, ¬ Good u s := fun u g => by
        have h1 := atoi_good g
        rw [← HR.out] at h1
        injection h1 with h1
        subst h1
        exact he g.1
      have t3 : (Go.Lib.itoa v == s.toList) = false := by
        rw [beq_eq_false_iff_ne]
        intro e
        apply he
        apply ByteArray.ext
        rw [ByteArray.toList_eq] at e
        apply Array.toList_inj.1
        exact e
      have HB := Lib.hid hbad
      have HE := Lib.hid he
      clear hbad he
      go_wp2_with fail
      go_ret2
      exact ⟨.inr ⟨HB.out, rfl⟩, B3.out⟩
  | range =>
    have hbad : ∀ u, ¬ Good u s := fun u g => by
      have h1 := atoi_good g
      rw [← hr] at h1
      cases h1
    have HB := Lib.hid hbad
    have HR := Lib.hid hr
    clear hr hbad
    obtain ⟨tp, p, hvar⟩ := HV.out.ran
    have HVAR := Lib.hid hvar
    clear hvar
    go_enter Tryd.func9, Tryd.ntmps9
    go_wp2_with fail
    refine HC.out.mono ?_; rintro e w1 ⟨rfl, hw⟩; obtain rfl := hw.symm
    go_wp2_with fail
    refine (Tryd.strconv_Atoi_range_var s (by omega) HR.out.symm tp p w HVAR.out).mono ?_
    rintro e w2 ⟨N, rfl, _, _, hb⟩
    have B2 := Lib.hid hb
    clear hb
    go_wp2_with fail
    go_ret2
    exact ⟨.inr ⟨HB.out, rfl⟩, B2.out⟩
  | _ =>
    have hbad : ∀ u, ¬ Good u s := fun u g => by
      have h1 := atoi_good g
      rw [← hr] at h1
      cases h1
    have HB := Lib.hid hbad
    have HR := Lib.hid hr
    clear hr hbad
    obtain ⟨tp, p, hvar⟩ := HV.out.syn
    have HVAR := Lib.hid hvar
    clear hvar
    go_enter Tryd.func9, Tryd.ntmps9
    go_wp2_with fail
    refine HC.out.mono ?_; rintro e w1 ⟨rfl, hw⟩; obtain rfl := hw.symm
    go_wp2_with fail
    refine (atoi_none s (by omega) (fun v e => by rw [← HR.out] at e; cases e) (fun e => by rw [← HR.out] at e; cases e) tp p w HVAR.out).mono ?_
    rintro e w2 ⟨N, rfl, _, _, hb⟩
    have B2 := Lib.hid hb
    clear hb
    go_wp2_with fail
    go_ret2
    exact ⟨.inr ⟨HB.out, rfl⟩, B2.out⟩
end Go.Proofs.YtefofijdpacleaaDoor
