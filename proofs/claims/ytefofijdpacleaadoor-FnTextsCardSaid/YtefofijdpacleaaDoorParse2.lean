/-
  Contract of the reference's ParseInt; the law FnExactParseInt.
-/
import Derived.Test.YtefofijdpacleaaDoorParse
namespace Go.Proofs.YtefofijdpacleaaDoor
open Go.RowKit Go.Sort Go.Joins
set_option linter.unusedVariables false
set_option linter.unusedSimpArgs false

theorem sgn_le (s : ByteArray) : sgn s ≤ 1 := by unfold sgn; split <;> omega
theorem list_get {s : ByteArray} {k : Nat} (h : k < s.size) : s.data.toList[k]? = some s[k] := by
  rw [Array.getElem?_toList, Array.getElem?_eq_getElem (show k < s.data.size from h)]; rfl
theorem sgn_one {s : ByteArray} (h : 0 < s.size) : sgn s = (if (s[0].toNat : Int) = 45 then 1 else 0) := by
  have e : s.data.toList.head? = some s[0] := by rw [List.head?_eq_getElem?]; exact list_get h
  unfold sgn
  rw [e]
  by_cases c : (s[0].toNat : Int) = 45
  · have : s[0] = 45 := UInt8.toNat_inj.1 (by show s[0].toNat = 45; omega)
    rw [if_pos c, if_pos (by rw [this])]
  · rw [if_neg c, if_neg (fun x => by injection x with x; rw [x] at c; exact c rfl)]
theorem rst_get {s : ByteArray} {k d : Nat} (hk : k < s.size) (hd : d + sgn s = k) : (rst s)[d]? = some s[k] := by
  unfold rst
  rw [List.getElem?_drop, Nat.add_comm, hd]
  exact list_get hk
theorem rst_step {s : ByteArray} {k d : Nat} (hk : k < s.size) (hd : d + sgn s = k) : (rst s).take (d + 1) = (rst s).take d ++ [s[k]] := by
  rw [List.take_add_one, rst_get hk hd]; rfl
theorem rst_mem {s : ByteArray} {k d : Nat} (hk : k < s.size) (hd : d + sgn s = k) : s[k] ∈ rst s := List.mem_of_getElem? (rst_get hk hd)
theorem int_eq {k : IntKind} {a b : Int} (h : a = b) : Value.int k a = Value.int k b := by rw [h]
theorem wrap_u8 (x : Int) (h0 : 0 ≤ x) (h1 : x ≤ 255) : IntKind.u8.wrap x = x := by
  have e : IntKind.u8.signed = false := rfl
  have e2 : IntKind.u8.bits = 8 := rfl
  simp [IntKind.wrap, e, e2]
  omega
theorem list_ne {a b : ByteArray} (h : ¬ a = b) : (a.toList == b.toList) = false := by
  rw [beq_eq_false_iff_ne]
  intro e
  apply h
  apply ByteArray.ext
  rw [ByteArray.toList_eq, ByteArray.toList_eq] at e
  exact Array.toList_inj.1 e
/-- what the loop keeps -/
def ParRel (s : ByteArray) (k d n : Nat) : Prop := ((d + sgn s = k) ∨ (k = 0 ∧ d = 0)) ∧ n = dv ((rst s).take d) ∧ (∀ c ∈ (rst s).take d, isDg c) ∧ d ≤ 14 ∧ k ≤ s.size
theorem ParRel.lt {s : ByteArray} {k d n : Nat} (h : ParRel s k d n) : n < 100000000000000 := by
  obtain ⟨_, rfl, h1, h2, _⟩ := h
  have a := dv_lt h1
  have b : (10 : Nat) ^ ((rst s).take d).length ≤ 10 ^ 14 := Nat.pow_le_pow_right (by omega) (by rw [List.length_take]; omega)
  omega
theorem ParRel.step {s : ByteArray} {k d n : Nat} (h : ParRel s k d n) (hk : k < s.size) (hd : d + sgn s = k) (h14 : d < 14) (hc : isDg s[k]) : ParRel s (k + 1) (d + 1) (n * 10 + (s[k].toNat - 48)) := by
  obtain ⟨_, rfl, h1, _, _⟩ := h
  refine ⟨.inl (by omega), by rw [rst_step hk hd, dv_snoc], fun c hm => ?_, by omega, by omega⟩
  rw [rst_step hk hd] at hm
  rcases List.mem_append.1 hm with hm | hm
  · exact h1 c hm
  · obtain rfl := List.mem_singleton.1 hm; exact hc
theorem ParRel.skip {s : ByteArray} {d n : Nat} (h : ParRel s 0 d n) (h0 : 0 < s.size) (hs : sgn s = 1) : ParRel s 1 0 0 := by
  exact ⟨.inl (by omega), by simp [dv, dvA], fun c hm => by simp at hm, by omega, by omega⟩
theorem ParRel.full {s : ByteArray} {d n : Nat} (h : ParRel s s.size d n) (hd : 1 ≤ d) : d = (rst s).length ∧ n = dv (rst s) := by
  obtain ⟨h0, rfl, _, _, _⟩ := h
  have hl := rst_size s
  have e : d = (rst s).length := by omega
  exact ⟨e, by rw [e, List.take_length]⟩
/-- the number at the end -/
theorem good_eq {v : Int} {s : ByteArray} (h : Good v s) : v = if sgn s = 1 then -(dv (rst s) : Int) else (dv (rst s) : Int) := by
  obtain ⟨h1, h2, h3, h4, h5, h6⟩ := h.parts
  rw [h1, h6]
  by_cases hv : v < 0
  · rw [if_pos hv, if_pos rfl]; omega
  · rw [if_neg hv, if_neg (by omega)]; omega
set_option maxRecDepth 20000 in
set_option maxHeartbeats 2000000 in
theorem spec_ParseInt (s : ByteArray) (w : World) (hs : s.size ≤ 1048576) :
    Calls Tryd.prog 8 #[.string s] w fun e w' => ParPost s e ∧ w' = w := by
  go_enter Tryd.func8, Tryd.ntmps8
  go_wp2_with fail
  go_loop [4, 5, 6] (fun nv dvv iv => ∃ k d n : Nat, nv = .int .i64 (n : Int) ∧ dvv = .int .i64 (d : Int) ∧ iv = .int .i64 (k : Int) ∧ ParRel s k d n) (fun _ _ iv => s.size - (intOf iv).toNat)
  case atStart => exact ⟨0, 0, 0, rfl, rfl, rfl, .inr ⟨rfl, rfl⟩, by simp [dv, dvA], fun c hm => by simp at hm, by omega, Nat.zero_le _⟩
  case round =>
    obtain ⟨k, d, n, rfl, rfl, rfl, hrel⟩ := hrel
    have hn := hrel.lt
    have hk : k ≤ s.size := hrel.2.2.2.2
    have hd14 : d ≤ 14 := hrel.2.2.2.1
    have HR := Lib.hid hrel
    clear hrel
    by_cases hlt : k < s.size
    case pos =>
      have hlt' : (k : Int) < (s.size : Int) := by omega
      by_cases h14 : d < 14
      case pos =>
        have h14' : (d : Int) < 14 := by omega
        by_cases hk0 : k = 0
        · subst hk0
          have e0 := sgn_one hlt
          by_cases h45 : (s[0].toNat : Int) = 45
          · rw [if_pos h45] at e0
            have t1 : ((s[0].toNat : Int) == 45) = true := by simp [h45]
            have hd0 : d = 0 := by have := HR.out.1; omega
            have hn0 : n = 0 := by have := HR.out.2.1; rw [hd0] at this; simpa [dv, dvA] using this
            have R1 := Lib.hid (HR.out.skip hlt e0)
            clear e0 h45 HR
            subst hd0 hn0
            go_wp2_with fail
            go_round
            case rel => exact ⟨1, 0, 0, rfl, rfl, by go_num, R1.out⟩
            case measure => simp [intOf]; omega
          · rw [if_neg h45] at e0
            have t1 : ((s[0].toNat : Int) == 45) = false := by simp [h45]
            have hds : d + sgn s = 0 := by have := HR.out.1; omega
            clear e0 h45
            by_cases hc : 48 ≤ (s[0].toNat : Int) ∧ (s[0].toNat : Int) ≤ 57
            · obtain ⟨c1, c2⟩ := hc
              have c3 : ¬ (s[0].toNat : Int) < 48 := by omega
              have c4 : ¬ 57 < (s[0].toNat : Int) := by omega
              have uw : IntKind.u8.wrap ((s[0].toNat : Int) - 48) = (s[0].toNat : Int) - 48 := wrap_u8 _ (by omega) (by omega)
              have R1 := Lib.hid (HR.out.step hlt hds h14 (by unfold isDg; omega))
              go_wp2_with fail
              go_round
              case rel => exact ⟨0 + 1, d + 1, _, int_eq (by omega), by go_num, by go_num, R1.out⟩
              case measure => simp [intOf]; omega
            · have hno : ∀ v, ¬ Good v s := fun v g => by
                have := g.parts.2.2.2.2.1 _ (rst_mem hlt hds)
                unfold isDg at this
                omega
              have HB := Lib.hid hno
              clear hno
              by_cases c1 : (s[0].toNat : Int) < 48
              · go_wp2_with fail
                go_ret2
                exact ⟨.inr ⟨HB.out, rfl⟩, rfl⟩
              · have c2 : 57 < (s[0].toNat : Int) := by omega
                go_wp2_with fail
                go_ret2
                exact ⟨.inr ⟨HB.out, rfl⟩, rfl⟩
        · have t0 : ((k : Int) == 0) = false := by simp; omega
          have hds : d + sgn s = k := by have := HR.out.1; omega
          by_cases hc : 48 ≤ (s[k].toNat : Int) ∧ (s[k].toNat : Int) ≤ 57
          · obtain ⟨c1, c2⟩ := hc
            have c3 : ¬ (s[k].toNat : Int) < 48 := by omega
            have c4 : ¬ 57 < (s[k].toNat : Int) := by omega
            have uw : IntKind.u8.wrap ((s[k].toNat : Int) - 48) = (s[k].toNat : Int) - 48 := wrap_u8 _ (by omega) (by omega)
            have R1 := Lib.hid (HR.out.step hlt hds h14 (by unfold isDg; omega))
            go_wp2_with fail
            go_round
            case rel => exact ⟨k + 1, d + 1, _, int_eq (by omega), by go_num, by go_num, R1.out⟩
            case measure => simp [intOf]; omega
          · have hno : ∀ v, ¬ Good v s := fun v g => by
              have := g.parts.2.2.2.2.1 _ (rst_mem hlt hds)
              unfold isDg at this
              omega
            have HB := Lib.hid hno
            clear hno
            by_cases c1 : (s[k].toNat : Int) < 48
            · go_wp2_with fail
              go_ret2
              exact ⟨.inr ⟨HB.out, rfl⟩, rfl⟩
            · have c2 : 57 < (s[k].toNat : Int) := by omega
              go_wp2_with fail
              go_ret2
              exact ⟨.inr ⟨HB.out, rfl⟩, rfl⟩
      case neg =>
        have h14' : ¬ (d : Int) < 14 := by omega
        have hno : ∀ v, ¬ Good v s := fun v g => by
          have h1 := g.parts.2.2.2.1
          have h2 := rst_size s
          have h3 := HR.out.1
          omega
        have HB := Lib.hid hno
        clear hno
        have z0 : 0 < s.size := by omega
        have hd1 : 0 < (d : Int) := by omega
        have hd2 : ¬ (d : Int) < 1 := by omega
        have hd3 : 12 < (d : Int) := by omega
        have z1 : (0 : Int) < (s.size : Int) := by omega
        by_cases h45 : (s[0].toNat : Int) = 45
        · have t1 : ((s[0].toNat : Int) == 45) = true := by simp [h45]
          clear h45
          go_wp2_with fail
          go_ret2
          exact ⟨.inr ⟨HB.out, rfl⟩, rfl⟩
        · have t1 : ((s[0].toNat : Int) == 45) = false := by simp [h45]
          clear h45
          go_wp2_with fail
          go_ret2
          exact ⟨.inr ⟨HB.out, rfl⟩, rfl⟩
    case neg =>
      have hlt' : ¬ (k : Int) < (s.size : Int) := by omega
      obtain rfl : k = s.size := by omega
      by_cases hd0 : d = 0
      · have hno : ∀ v, ¬ Good v s := fun v g => by
          have h1 := g.parts.2.2.1
          have h2 := rst_size s
          have h3 := HR.out.1
          omega
        have HB := Lib.hid hno
        clear hno
        subst hd0
        go_wp2_with fail
        go_ret2
        exact ⟨.inr ⟨HB.out, rfl⟩, rfl⟩
      have z0 : 0 < s.size := by have := HR.out.1; omega
      have z1 : (0 : Int) < (s.size : Int) := by omega
      have hd1 : 0 < (d : Int) := by omega
      have hd2 : ¬ (d : Int) < 1 := by omega
      have e0 := sgn_one z0
      obtain ⟨f1, f2⟩ := HR.out.full (by omega)
      by_cases hd12 : 12 < d
      · have hd3 : 12 < (d : Int) := by omega
        have hno : ∀ v, ¬ Good v s := fun v g => by
          have h1 := g.parts.2.2.2.1
          omega
        have HB := Lib.hid hno
        clear hno f1 f2 e0
        by_cases h45 : (s[0].toNat : Int) = 45
        · have t1 : ((s[0].toNat : Int) == 45) = true := by simp [h45]
          clear h45
          go_wp2_with fail
          go_ret2
          exact ⟨.inr ⟨HB.out, rfl⟩, rfl⟩
        · have t1 : ((s[0].toNat : Int) == 45) = false := by simp [h45]
          clear h45
          go_wp2_with fail
          go_ret2
          exact ⟨.inr ⟨HB.out, rfl⟩, rfl⟩
      have hd3 : ¬ 12 < (d : Int) := by omega
      obtain ⟨N, hN⟩ : ∃ N : Int, N = if sgn s = 1 then -(n : Int) else (n : Int) := ⟨_, rfl⟩
      have hb1 : -9223372036854775808 ≤ N := by rw [hN]; split <;> omega
      have hb2 : N ≤ 9223372036854775807 := by rw [hN]; split <;> omega
      have hyes : itoaS N = s → Good N s := fun h => good_of h (by omega)
      have hno : ¬ itoaS N = s → ∀ v, ¬ Good v s := fun h v g => by
        have h1 := good_eq g
        rw [← f2, ← hN] at h1
        subst h1
        exact h g.1
      have HY := Lib.hid hyes
      have HNO := Lib.hid hno
      clear hyes hno f1 f2
      by_cases h45 : (s[0].toNat : Int) = 45
      · have t1 : ((s[0].toNat : Int) == 45) = true := by simp [h45]
        rw [if_pos h45] at e0
        rw [if_pos e0] at hN
        clear h45 e0
        have uw : IntKind.i64.wrap (-(n : Int)) = N := by rw [hN]; exact IntWalk.i64_in _ ⟨by omega, by omega⟩
        have hn' : -(n : Int) = N := hN.symm
        clear hN
        by_cases he : itoaS N = s
        · have t3 : ((itoaS N).toList == s.toList) = true := by rw [he]; simp
          have HE := Lib.hid he
          clear he
          go_wp2_with fail
          refine (spec_FormatInt N _ hb1 hb2).mono ?_; rintro e w1 ⟨rfl, hw⟩; obtain rfl := hw.symm
          go_wp2_with fail
          go_ret2
          exact ⟨.inl ⟨N, HY.out HE.out, rfl⟩, rfl⟩
        · have t3 : ((itoaS N).toList == s.toList) = false := list_ne he
          have HE := Lib.hid he
          clear he
          go_wp2_with fail
          refine (spec_FormatInt N _ hb1 hb2).mono ?_; rintro e w1 ⟨rfl, hw⟩; obtain rfl := hw.symm
          go_wp2_with fail
          go_ret2
          exact ⟨.inr ⟨HNO.out HE.out, rfl⟩, rfl⟩
      · have t1 : ((s[0].toNat : Int) == 45) = false := by simp [h45]
        rw [if_neg h45] at e0
        rw [if_neg (by omega)] at hN
        clear h45 e0
        subst hN
        by_cases he : itoaS (n : Int) = s
        · have t3 : ((itoaS (n : Int)).toList == s.toList) = true := by rw [he]; simp
          have HE := Lib.hid he
          clear he
          go_wp2_with fail
          refine (spec_FormatInt (n : Int) _ hb1 hb2).mono ?_; rintro e w1 ⟨rfl, hw⟩; obtain rfl := hw.symm
          go_wp2_with fail
          go_ret2
          exact ⟨.inl ⟨(n : Int), HY.out HE.out, rfl⟩, rfl⟩
        · have t3 : ((itoaS (n : Int)).toList == s.toList) = false := list_ne he
          have HE := Lib.hid he
          clear he
          go_wp2_with fail
          refine (spec_FormatInt (n : Int) _ hb1 hb2).mono ?_; rintro e w1 ⟨rfl, hw⟩; obtain rfl := hw.symm
          go_wp2_with fail
          go_ret2
          exact ⟨.inr ⟨HNO.out HE.out, rfl⟩, rfl⟩
theorem ParPost.one {s : ByteArray} {e e' : Ending} (h : ParPost s e) (h' : ParPost s e') : e = e' ∧ ∃ v b, e = .returned (pairV v b) := by
  rcases h with ⟨v, g, rfl⟩ | ⟨n, rfl⟩ <;> rcases h' with ⟨v', g', rfl⟩ | ⟨n', rfl⟩
  · have : v = v' := itoaS_inj (g.1.trans g'.1.symm)
    subst this; exact ⟨rfl, v, true, rfl⟩
  · exact absurd g (n' v)
  · exact absurd g' (n v')
  · exact ⟨rfl, 0, false, rfl⟩
theorem law_ParseInt (s : ByteArray) (w0 : s.size ≤ maxLen) (w : World) (hv : VarOk w) :
    Calls Tryd.prog 3 #[.string s] w fun e w' => e = .returned (.bool true) ∧ Below w.heap.size w w' := by
  have HV := Lib.hid hv
  clear hv
  have hm : s.size ≤ 9223372036854775807 := by unfold maxLen at w0; omega
  clear w0
  by_cases hb : 1048576 < s.size
  · have hb' : (1048576 : Int) < (s.size : Int) := by omega
    go_enter Tryd.func3, Tryd.ntmps3
    go_wp2_with fail
    go_ret
    exact ⟨rfl, Below.refl _ _⟩
  have hb' : ¬ (1048576 : Int) < (s.size : Int) := by omega
  have hle : s.size ≤ 1048576 := by omega
  go_enter Tryd.func3, Tryd.ntmps3
  go_wp2_with fail
  refine (spec_ParseInt s _ hle).mono ?_; rintro e w1 ⟨hp, hw⟩; obtain rfl := hw.symm
  obtain ⟨_, v, b, rfl⟩ := hp.one hp
  have HP := Lib.hid hp
  clear hp
  unfold pairV
  go_wp2_with fail
  refine (impl_ParseInt s _ hle HV.out).mono ?_; rintro e w2 ⟨hq, hb2⟩
  obtain ⟨he, _⟩ := HP.out.one hq
  subst he
  have B2 := Lib.hid hb2
  clear hq hb2
  unfold pairV
  go_wp2_with fail
  go_ret
  exact ⟨rfl, B2.out⟩
end Go.Proofs.YtefofijdpacleaaDoor
