/-
  Walk of the law FnWords.
-/
import Derived.Test.YtefofijdpacleaaDoorDrawWords
import Derived.Test.YtefofijdpacleaaDoorWordsNum
namespace Go.Proofs.YtefofijdpacleaaDoor
open Go.RowKit
set_option linter.unusedVariables false
set_option linter.unusedSimpArgs false

theorem bytes_call {w w' : World} {A : Option Addr} {len : Nat} (h : Bytes w A len) (hb : Below w.heap.size w w') : Bytes w' A len :=
  ⟨h.1, fun j hj => by
    obtain ⟨b, o, x, e, hB, h0, h1, hc⟩ := h.2 j hj
    exact ⟨b, o, x, e, Nat.lt_of_lt_of_le hB hb.size, h0, h1, (hb.cell (p := ⟨b, o + j, none⟩) hB).trans hc⟩⟩
theorem lst_get {l : List ByteArray} {i : Nat} (h : i < l.length) : l.getD i ByteArray.empty ∈ l := by
  rw [List.getD_eq_getElem?_getD, List.getElem?_eq_getElem h]; exact List.getElem_mem h
set_option maxRecDepth 20000 in
set_option maxHeartbeats 4000000 in
theorem law_Words (w : World) (A : Option Addr) (len cap : Nat) (hb : Bytes w A len) (hc : CntOk w) :
    Calls Tryd.prog 7 #[.slice A len cap] w fun e w' => e = .returned (.bool true) ∧ Below w.heap.size w w' := by
  have hm := hb.1
  have HB := Lib.hid hb
  have HC := Lib.hid hc
  clear hb hc
  by_cases hbig : 1048576 < len
  · have hd : decide (1048576 < len) = true := by simpa using hbig
    go_enter Tryd.func7, Tryd.ntmps7
    go_wp2_with fail
    refine (big_any _ _ _ _ hm).mono ?_; rintro e w0 ⟨rfl, rfl⟩
    go_wp2_with fail
    go_ret
    exact ⟨rfl, Below.refl _ _⟩
  have hd : decide (1048576 < len) = false := by simpa using hbig
  go_enter Tryd.func7, Tryd.ntmps7
  go_wp2_with fail
  refine (big_any _ _ _ _ hm).mono ?_; rintro e w0 ⟨rfl, hw0⟩; obtain rfl := hw0.symm
  go_wp2_with fail
  refine (drawJoinWords_any _ _ _ _ HB.out).mono ?_; rintro e w1 ⟨l, v, rfl, ho, hl8, hll, b1⟩
  obtain ⟨Al, cl, rfl, hS, hA⟩ := ho.slice
  obtain ⟨f, hf⟩ : ∃ f : Nat → ByteArray, f = fun i => l.getD i ByteArray.empty := ⟨_, rfl⟩
  obtain ⟨n, hn⟩ : ∃ n, n = l.length := ⟨_, rfl⟩
  have hfs : ∀ i, i < n → (f i).size ≤ 8 := fun i hi => by rw [hf]; exact hl8 _ (lst_get (by omega))
  have hsl : StrsF w1 Al n cl f := by
    refine ⟨?_, fun i hi => by have := hfs i hi; omega⟩
    rw [hn, hf]
    exact hS.congr (fun j q _ _ => rfl)
  rw [← hn] at hll ⊢
  have L1 := Lib.hid hsl
  have F1 := Lib.hid hfs
  have B1 := Lib.hid b1
  have C1 := Lib.hid (HC.out.call b1)
  have Y1 := Lib.hid (bytes_call HB.out b1)
  clear ho hS hf hn hfs hsl b1 hl8 hA
  clear l
  go_wp2_with fail
  go_loop [4, 5, 6] (fun fv iv _ => ∃ (k : Nat) (b : Bool), iv = .int .i64 (k : Int) ∧ k ≤ n ∧ fv = .bool b ∧ (b = true → ∀ i, i < k → Clean (f i))) (fun _ iv _ => n - (intOf iv).toNat)
  case atStart => exact ⟨0, true, rfl, Nat.zero_le _, rfl, fun _ i hi => absurd hi (by omega)⟩
  case round =>
    obtain ⟨k, b, rfl, hk, rfl, hcl⟩ := hrel
    have CL := Lib.hid hcl
    clear hcl
    by_cases hlt : k < n
    · have hlt' : (k : Int) < (n : Int) := by omega
      obtain ⟨g, o, rfl, hB, hcell⟩ := L1.out.cell hlt
      have hsz := F1.out k hlt
      obtain ⟨z, hz⟩ : ∃ z, z = f k := ⟨_, rfl⟩
      rw [← hz] at hcell hsz
      have HZ := Lib.hid hz
      clear hz
      cases b with
      | true =>
        cases hE : z.toList.isEmpty with
        | true =>
          go_wp2_with fail
          go_loop [4, 6] (fun fv jv => ∃ (j : Nat), jv = .int .i64 (j : Int) ∧ j ≤ z.size ∧ fv = .bool false) (fun _ jv => z.size - (intOf jv).toNat)
          case atStart => exact ⟨0, rfl, Nat.zero_le _, rfl⟩
          case round =>
            obtain ⟨j, rfl, hj, rfl⟩ := hrel
            by_cases hjl : j < z.size
            · have hjl' : (j : Int) < (z.size : Int) := by omega
              go_wp2_with fail
              go_round
              case rel => exact ⟨j + 1, by go_num, by omega, rfl⟩
              case measure => simp [intOf]; omega
            · obtain rfl : j = z.size := by omega
              go_wp2_with fail
              go_round
              case rel => exact ⟨k + 1, false, by go_num, by omega, rfl, fun h => by cases h⟩
              case measure => simp [intOf]; omega
        | false =>
          have hz0 : z.size ≠ 0 := by
            rw [empty_size] at hE
            simpa using hE
          have HZ0 := Lib.hid hz0
          clear hz0
          go_wp2_with fail
          go_loop [4, 6] (fun fv jv => ∃ (j : Nat) (d : Bool), jv = .int .i64 (j : Int) ∧ j ≤ z.size ∧ fv = .bool d ∧ (d = true → ∀ q, q < j → (h : q < z.size) → z[q] ≠ 32)) (fun _ jv => z.size - (intOf jv).toNat)
          case atStart => exact ⟨0, true, rfl, Nat.zero_le _, rfl, fun _ q hq => absurd hq (by omega)⟩
          case round =>
            obtain ⟨j, d, rfl, hj, rfl, hcd⟩ := hrel
            have CD := Lib.hid hcd
            clear hcd
            by_cases hjl : j < z.size
            · have hjl' : (j : Int) < (z.size : Int) := by omega
              cases d with
              | true =>
                have hu := u8_ne z[j]
                by_cases hs : z[j] = 32
                · have hu' : ((z[j].toNat : Int) != 32) = false := by rw [hu]; simp [hs]
                  clear hu hs
                  go_wp2_with fail
                  go_round
                  case rel => exact ⟨j + 1, false, by go_num, by omega, rfl, fun h => by cases h⟩
                  case measure => simp [intOf]; omega
                · have hu' : ((z[j].toNat : Int) != 32) = true := by rw [hu]; simp [hs]
                  have HSP := Lib.hid hs
                  clear hu hs
                  go_wp2_with fail
                  go_round
                  case rel => exact ⟨j + 1, true, by go_num, by omega, rfl, fun _ q hq h => by
                    by_cases e : q = j
                    · subst e; exact HSP.out
                    · exact CD.out rfl q (by omega) h⟩
                  case measure => simp [intOf]; omega
              | false =>
                go_wp2_with fail
                go_round
                case rel => exact ⟨j + 1, false, by go_num, by omega, rfl, fun h => by cases h⟩
                case measure => simp [intOf]; omega
            · obtain rfl : j = z.size := by omega
              go_wp2_with fail
              go_round
              case rel => exact ⟨k + 1, d, by go_num, by omega, rfl, fun hd i hi => by
                by_cases e : i = k
                · subst e
                  rw [← HZ.out]
                  exact ⟨HZ0.out, fun q hq => CD.out hd q hq hq⟩
                · exact CL.out (by first | rfl | trivial) i (by omega)⟩
              case measure => simp [intOf]; omega
      | false =>
        go_wp2_with fail
        go_loop [4, 6] (fun fv jv => ∃ (j : Nat), jv = .int .i64 (j : Int) ∧ j ≤ z.size ∧ fv = .bool false) (fun _ jv => z.size - (intOf jv).toNat)
        case atStart => exact ⟨0, rfl, Nat.zero_le _, rfl⟩
        case round =>
          obtain ⟨j, rfl, hj, rfl⟩ := hrel
          by_cases hjl : j < z.size
          · have hjl' : (j : Int) < (z.size : Int) := by omega
            go_wp2_with fail
            go_round
            case rel => exact ⟨j + 1, by go_num, by omega, rfl⟩
            case measure => simp [intOf]; omega
          · obtain rfl : j = z.size := by omega
            go_wp2_with fail
            go_round
            case rel => exact ⟨k + 1, false, by go_num, by omega, rfl, fun h => by cases h⟩
            case measure => simp [intOf]; omega
    · obtain rfl : k = n := by omega
      have hsum := sumZ_bound k F1.out
      go_wp2_with fail
      refine (impl_JoinWords _ Al k cl f L1.out (by omega)).mono ?_; rintro e w2 ⟨rfl, b2⟩
      have hjs := joinS_size f k
      have B2 := Lib.hid (B1.out.trans (b2.mono B1.out.size))
      have C2 := Lib.hid (C1.out.call b2)
      have Y2 := Lib.hid (bytes_call Y1.out b2)
      have L2 := Lib.hid (L1.out.call b2)
      clear b2
      obtain ⟨S, hS⟩ : ∃ S, S = joinS f k := ⟨_, rfl⟩
      rw [← hS] at hjs ⊢
      have HS := Lib.hid hS
      clear hS
      go_wp2_with fail
      refine (impl_SplitWords S _ (by omega) C2.out).mono ?_; rintro e w3 hp
      have b3 : Below w2.heap.size w2 w3 := by
        rcases hp with ⟨_, _, _, _, _, h⟩ | ⟨_, _, h⟩ <;> exact h
      have B3 := Lib.hid (B2.out.trans (b3.mono B2.out.size))
      have C3 := Lib.hid (C2.out.call b3)
      have Y3 := Lib.hid (bytes_call Y2.out b3)
      have L3 := Lib.hid (L2.out.call b3)
      clear b3
      by_cases hk0 : k = 0
      · subst hk0
        have hS0 : S.size = 0 := by rw [HS.out]; rfl
        rcases hp with ⟨hf, _⟩ | ⟨_, rfl, _⟩
        · exact absurd hf (empty_not hS0)
        have hds : decide (S.size = 0) = true := by simp [hS0]
        rw [hds]
        clear hS0 hds
        unfold strV
        cases b with
        | true =>
          go_wp2_with fail
          refine (sameTexts_same _ _ _ 0 0 cl f (StrsF.empty _ _ _ (by omega) _) L3.out).mono ?_; rintro e w4 ⟨rfl, m4, hw4⟩
          have hb4 : Below w3.heap.size w3 w4 := by rw [hw4]; exact below_drewN' (Below.refl _ _) _
          have B4 := Lib.hid (B3.out.trans (hb4.mono B3.out.size))
          have C4 := Lib.hid (C3.out.call hb4)
          have Y4 := Lib.hid (bytes_call Y3.out hb4)
          clear hw4 hb4
          go_wp2_with fail
          refine (drawSplitWords_any _ _ _ _ Y4.out).mono ?_; rintro e w5 ⟨s, rfl, hs, b5⟩
          have B5 := Lib.hid (B4.out.trans (b5.mono B4.out.size))
          have C5 := Lib.hid (C4.out.call b5)
          clear b5
          go_wp2_with fail
          refine (impl_SplitWords s _ (by omega) C5.out).mono ?_; rintro e w6 hp
          rcases hp with ⟨hf, g, rfl, hg, hrow, b6⟩ | ⟨hf, rfl, b6⟩
          · have B6 := Lib.hid (B5.out.trans (b6.mono B5.out.size))
            have hwz : ∀ i, i < (wsB s).length → (wordAt s i).size ≤ 64 := fun i hi => by have := word_size s _ (List.mem_of_getElem? (wordAt_get hi)); omega
            have hwl := wsB_le s
            have hq := StrsF.of_row hrow (by omega) (fun i hi => by have := hwz i hi; omega)
            have hsm := sumZ_bound _ hwz
            have Q6 := Lib.hid hq
            have J6 := Lib.hid (join_wordAt s)
            clear hq hrow hf hg b6 hwz
            unfold strV
            obtain ⟨q, hq⟩ : ∃ q, q = (wsB s).length := ⟨_, rfl⟩
            rw [← hq] at hwl hsm Q6 J6 ⊢
            clear hq
            have hjc := impl_JoinWords w6 (some ⟨g, 0, none⟩) q q _ Q6.out (by omega)
            rw [J6.out] at hjc
            have HJ := Lib.hid hjc
            clear hjc hsm hwl
            go_wp2_with fail
            refine HJ.out.mono ?_; rintro e w7 ⟨rfl, b7⟩
            have B7 := Lib.hid (B6.out.trans (b7.mono B6.out.size))
            clear b7
            go_wp2_with fail
            go_ret
            exact ⟨by simp, B7.out⟩
          · have B6 := Lib.hid (B5.out.trans (b6.mono B5.out.size))
            clear b6 hf
            by_cases h0 : s.size = 0
            · have hds : decide (s.size = 0) = true := by simp [h0]
              rw [hds]
              have hsE : s = ⟨#[]⟩ := by
                apply ByteArray.ext
                exact Array.eq_empty_of_size_eq_zero h0
              subst hsE
              clear hds h0
              unfold strV
              have hjc := impl_JoinWords w6 none 0 0 (fun _ => ByteArray.empty) (StrsF.empty _ _ _ (by omega) _) (by simp [sumZ])
              have e0 : joinS (fun _ => ByteArray.empty) 0 = ⟨#[]⟩ := rfl
              rw [e0] at hjc
              have HJ := Lib.hid hjc
              clear hjc e0
              go_wp2_with fail
              refine HJ.out.mono ?_; rintro e w7 ⟨rfl, b7⟩
              have B7 := Lib.hid (B6.out.trans (b7.mono B6.out.size))
              clear b7
              go_wp2_with fail
              go_ret
              exact ⟨by simp, B7.out⟩
            · have hds : decide (s.size = 0) = false := by simp [h0]
              rw [hds]
              clear hds h0
              unfold strV
              go_wp2_with fail
              go_ret
              exact ⟨rfl, B6.out⟩
        | false =>
          go_wp2_with fail
          refine (drawSplitWords_any _ _ _ _ Y3.out).mono ?_; rintro e w5 ⟨s, rfl, hs, b5⟩
          have B5 := Lib.hid (B3.out.trans (b5.mono B3.out.size))
          have C5 := Lib.hid (C3.out.call b5)
          clear b5
          go_wp2_with fail
          refine (impl_SplitWords s _ (by omega) C5.out).mono ?_; rintro e w6 hp
          rcases hp with ⟨hf, g, rfl, hg, hrow, b6⟩ | ⟨hf, rfl, b6⟩
          · have B6 := Lib.hid (B5.out.trans (b6.mono B5.out.size))
            have hwz : ∀ i, i < (wsB s).length → (wordAt s i).size ≤ 64 := fun i hi => by have := word_size s _ (List.mem_of_getElem? (wordAt_get hi)); omega
            have hwl := wsB_le s
            have hq := StrsF.of_row hrow (by omega) (fun i hi => by have := hwz i hi; omega)
            have hsm := sumZ_bound _ hwz
            have Q6 := Lib.hid hq
            have J6 := Lib.hid (join_wordAt s)
            clear hq hrow hf hg b6 hwz
            unfold strV
            obtain ⟨q, hq⟩ : ∃ q, q = (wsB s).length := ⟨_, rfl⟩
            rw [← hq] at hwl hsm Q6 J6 ⊢
            clear hq
            have hjc := impl_JoinWords w6 (some ⟨g, 0, none⟩) q q _ Q6.out (by omega)
            rw [J6.out] at hjc
            have HJ := Lib.hid hjc
            clear hjc hsm hwl
            go_wp2_with fail
            refine HJ.out.mono ?_; rintro e w7 ⟨rfl, b7⟩
            have B7 := Lib.hid (B6.out.trans (b7.mono B6.out.size))
            clear b7
            go_wp2_with fail
            go_ret
            exact ⟨by simp, B7.out⟩
          · have B6 := Lib.hid (B5.out.trans (b6.mono B5.out.size))
            clear b6 hf
            by_cases h0 : s.size = 0
            · have hds : decide (s.size = 0) = true := by simp [h0]
              rw [hds]
              have hsE : s = ⟨#[]⟩ := by
                apply ByteArray.ext
                exact Array.eq_empty_of_size_eq_zero h0
              subst hsE
              clear hds h0
              unfold strV
              have hjc := impl_JoinWords w6 none 0 0 (fun _ => ByteArray.empty) (StrsF.empty _ _ _ (by omega) _) (by simp [sumZ])
              have e0 : joinS (fun _ => ByteArray.empty) 0 = ⟨#[]⟩ := rfl
              rw [e0] at hjc
              have HJ := Lib.hid hjc
              clear hjc e0
              go_wp2_with fail
              refine HJ.out.mono ?_; rintro e w7 ⟨rfl, b7⟩
              have B7 := Lib.hid (B6.out.trans (b7.mono B6.out.size))
              clear b7
              go_wp2_with fail
              go_ret
              exact ⟨by simp, B7.out⟩
            · have hds : decide (s.size = 0) = false := by simp [h0]
              rw [hds]
              clear hds h0
              unfold strV
              go_wp2_with fail
              go_ret
              exact ⟨rfl, B6.out⟩
      · cases b with
        | true =>
          obtain ⟨hfull, hln, hwa⟩ := full_join hk0 (CL.out rfl)
          rw [← HS.out] at hfull hln hwa
          rcases hp with ⟨_, g, rfl, hg, hrow, _⟩ | ⟨hf, _⟩
          · rw [hln] at hrow ⊢
            have hq := StrsF.of_row (hrow.congr (f' := fun i => .string (f i)) (fun i hi => by rw [hwa i hi])) (by omega) (fun i hi => by have := F1.out i hi; omega)
            have Q3 := Lib.hid hq
            clear hq hrow hfull hln hwa hg
            unfold strV
            go_wp2_with fail
            refine (sameTexts_same _ _ _ k k cl f Q3.out L3.out).mono ?_; rintro e w4 ⟨rfl, m4, hw4⟩
            have hb4 : Below w3.heap.size w3 w4 := by rw [hw4]; exact below_drewN' (Below.refl _ _) _
            have B4 := Lib.hid (B3.out.trans (hb4.mono B3.out.size))
            have C4 := Lib.hid (C3.out.call hb4)
            have Y4 := Lib.hid (bytes_call Y3.out hb4)
            clear hw4 hb4
            go_wp2_with fail
            refine (drawSplitWords_any _ _ _ _ Y4.out).mono ?_; rintro e w5 ⟨s, rfl, hs, b5⟩
            have B5 := Lib.hid (B4.out.trans (b5.mono B4.out.size))
            have C5 := Lib.hid (C4.out.call b5)
            clear b5
            go_wp2_with fail
            refine (impl_SplitWords s _ (by omega) C5.out).mono ?_; rintro e w6 hp
            rcases hp with ⟨hf, g, rfl, hg, hrow, b6⟩ | ⟨hf, rfl, b6⟩
            · have B6 := Lib.hid (B5.out.trans (b6.mono B5.out.size))
              have hwz : ∀ i, i < (wsB s).length → (wordAt s i).size ≤ 64 := fun i hi => by have := word_size s _ (List.mem_of_getElem? (wordAt_get hi)); omega
              have hwl := wsB_le s
              have hq := StrsF.of_row hrow (by omega) (fun i hi => by have := hwz i hi; omega)
              have hsm := sumZ_bound _ hwz
              have Q6 := Lib.hid hq
              have J6 := Lib.hid (join_wordAt s)
              clear hq hrow hf hg b6 hwz
              unfold strV
              obtain ⟨q, hq⟩ : ∃ q, q = (wsB s).length := ⟨_, rfl⟩
              rw [← hq] at hwl hsm Q6 J6 ⊢
              clear hq
              have hjc := impl_JoinWords w6 (some ⟨g, 0, none⟩) q q _ Q6.out (by omega)
              rw [J6.out] at hjc
              have HJ := Lib.hid hjc
              clear hjc hsm hwl
              go_wp2_with fail
              refine HJ.out.mono ?_; rintro e w7 ⟨rfl, b7⟩
              have B7 := Lib.hid (B6.out.trans (b7.mono B6.out.size))
              clear b7
              go_wp2_with fail
              go_ret
              exact ⟨by simp, B7.out⟩
            · have B6 := Lib.hid (B5.out.trans (b6.mono B5.out.size))
              clear b6 hf
              by_cases h0 : s.size = 0
              · have hds : decide (s.size = 0) = true := by simp [h0]
                rw [hds]
                have hsE : s = ⟨#[]⟩ := by
                  apply ByteArray.ext
                  exact Array.eq_empty_of_size_eq_zero h0
                subst hsE
                clear hds h0
                unfold strV
                have hjc := impl_JoinWords w6 none 0 0 (fun _ => ByteArray.empty) (StrsF.empty _ _ _ (by omega) _) (by simp [sumZ])
                have e0 : joinS (fun _ => ByteArray.empty) 0 = ⟨#[]⟩ := rfl
                rw [e0] at hjc
                have HJ := Lib.hid hjc
                clear hjc e0
                go_wp2_with fail
                refine HJ.out.mono ?_; rintro e w7 ⟨rfl, b7⟩
                have B7 := Lib.hid (B6.out.trans (b7.mono B6.out.size))
                clear b7
                go_wp2_with fail
                go_ret
                exact ⟨by simp, B7.out⟩
              · have hds : decide (s.size = 0) = false := by simp [h0]
                rw [hds]
                clear hds h0
                unfold strV
                go_wp2_with fail
                go_ret
                exact ⟨rfl, B6.out⟩
          · exact absurd hfull hf
        | false =>
          rcases hp with ⟨_, g, rfl, hg, hrow, _⟩ | ⟨hf, rfl, _⟩
          · clear hrow hg
            unfold strV
            go_wp2_with fail
            refine (drawSplitWords_any _ _ _ _ Y3.out).mono ?_; rintro e w5 ⟨s, rfl, hs, b5⟩
            have B5 := Lib.hid (B3.out.trans (b5.mono B3.out.size))
            have C5 := Lib.hid (C3.out.call b5)
            clear b5
            go_wp2_with fail
            refine (impl_SplitWords s _ (by omega) C5.out).mono ?_; rintro e w6 hp
            rcases hp with ⟨hf, g, rfl, hg, hrow, b6⟩ | ⟨hf, rfl, b6⟩
            · have B6 := Lib.hid (B5.out.trans (b6.mono B5.out.size))
              have hwz : ∀ i, i < (wsB s).length → (wordAt s i).size ≤ 64 := fun i hi => by have := word_size s _ (List.mem_of_getElem? (wordAt_get hi)); omega
              have hwl := wsB_le s
              have hq := StrsF.of_row hrow (by omega) (fun i hi => by have := hwz i hi; omega)
              have hsm := sumZ_bound _ hwz
              have Q6 := Lib.hid hq
              have J6 := Lib.hid (join_wordAt s)
              clear hq hrow hf hg b6 hwz
              unfold strV
              obtain ⟨q, hq⟩ : ∃ q, q = (wsB s).length := ⟨_, rfl⟩
              rw [← hq] at hwl hsm Q6 J6 ⊢
              clear hq
              have hjc := impl_JoinWords w6 (some ⟨g, 0, none⟩) q q _ Q6.out (by omega)
              rw [J6.out] at hjc
              have HJ := Lib.hid hjc
              clear hjc hsm hwl
              go_wp2_with fail
              refine HJ.out.mono ?_; rintro e w7 ⟨rfl, b7⟩
              have B7 := Lib.hid (B6.out.trans (b7.mono B6.out.size))
              clear b7
              go_wp2_with fail
              go_ret
              exact ⟨by simp, B7.out⟩
            · have B6 := Lib.hid (B5.out.trans (b6.mono B5.out.size))
              clear b6 hf
              by_cases h0 : s.size = 0
              · have hds : decide (s.size = 0) = true := by simp [h0]
                rw [hds]
                have hsE : s = ⟨#[]⟩ := by
                  apply ByteArray.ext
                  exact Array.eq_empty_of_size_eq_zero h0
                subst hsE
                clear hds h0
                unfold strV
                have hjc := impl_JoinWords w6 none 0 0 (fun _ => ByteArray.empty) (StrsF.empty _ _ _ (by omega) _) (by simp [sumZ])
                have e0 : joinS (fun _ => ByteArray.empty) 0 = ⟨#[]⟩ := rfl
                rw [e0] at hjc
                have HJ := Lib.hid hjc
                clear hjc e0
                go_wp2_with fail
                refine HJ.out.mono ?_; rintro e w7 ⟨rfl, b7⟩
                have B7 := Lib.hid (B6.out.trans (b7.mono B6.out.size))
                clear b7
                go_wp2_with fail
                go_ret
                exact ⟨by simp, B7.out⟩
              · have hds : decide (s.size = 0) = false := by simp [h0]
                rw [hds]
                clear hds h0
                unfold strV
                go_wp2_with fail
                go_ret
                exact ⟨rfl, B6.out⟩
          · clear hf
            obtain ⟨bb, hbb⟩ : ∃ bb, bb = decide (S.size = 0) := ⟨_, rfl⟩
            rw [← hbb]
            clear hbb
            unfold strV
            go_wp2_with fail
            refine (drawSplitWords_any _ _ _ _ Y3.out).mono ?_; rintro e w5 ⟨s, rfl, hs, b5⟩
            have B5 := Lib.hid (B3.out.trans (b5.mono B3.out.size))
            have C5 := Lib.hid (C3.out.call b5)
            clear b5
            go_wp2_with fail
            refine (impl_SplitWords s _ (by omega) C5.out).mono ?_; rintro e w6 hp
            rcases hp with ⟨hf, g, rfl, hg, hrow, b6⟩ | ⟨hf, rfl, b6⟩
            · have B6 := Lib.hid (B5.out.trans (b6.mono B5.out.size))
              have hwz : ∀ i, i < (wsB s).length → (wordAt s i).size ≤ 64 := fun i hi => by have := word_size s _ (List.mem_of_getElem? (wordAt_get hi)); omega
              have hwl := wsB_le s
              have hq := StrsF.of_row hrow (by omega) (fun i hi => by have := hwz i hi; omega)
              have hsm := sumZ_bound _ hwz
              have Q6 := Lib.hid hq
              have J6 := Lib.hid (join_wordAt s)
              clear hq hrow hf hg b6 hwz
              unfold strV
              obtain ⟨q, hq⟩ : ∃ q, q = (wsB s).length := ⟨_, rfl⟩
              rw [← hq] at hwl hsm Q6 J6 ⊢
              clear hq
              have hjc := impl_JoinWords w6 (some ⟨g, 0, none⟩) q q _ Q6.out (by omega)
              rw [J6.out] at hjc
              have HJ := Lib.hid hjc
              clear hjc hsm hwl
              go_wp2_with fail
              refine HJ.out.mono ?_; rintro e w7 ⟨rfl, b7⟩
              have B7 := Lib.hid (B6.out.trans (b7.mono B6.out.size))
              clear b7
              go_wp2_with fail
              go_ret
              exact ⟨by simp, B7.out⟩
            · have B6 := Lib.hid (B5.out.trans (b6.mono B5.out.size))
              clear b6 hf
              by_cases h0 : s.size = 0
              · have hds : decide (s.size = 0) = true := by simp [h0]
                rw [hds]
                have hsE : s = ⟨#[]⟩ := by
                  apply ByteArray.ext
                  exact Array.eq_empty_of_size_eq_zero h0
                subst hsE
                clear hds h0
                unfold strV
                have hjc := impl_JoinWords w6 none 0 0 (fun _ => ByteArray.empty) (StrsF.empty _ _ _ (by omega) _) (by simp [sumZ])
                have e0 : joinS (fun _ => ByteArray.empty) 0 = ⟨#[]⟩ := rfl
                rw [e0] at hjc
                have HJ := Lib.hid hjc
                clear hjc e0
                go_wp2_with fail
                refine HJ.out.mono ?_; rintro e w7 ⟨rfl, b7⟩
                have B7 := Lib.hid (B6.out.trans (b7.mono B6.out.size))
                clear b7
                go_wp2_with fail
                go_ret
                exact ⟨by simp, B7.out⟩
              · have hds : decide (s.size = 0) = false := by simp [h0]
                rw [hds]
                clear hds h0
                unfold strV
                go_wp2_with fail
                go_ret
                exact ⟨rfl, B6.out⟩
end Go.Proofs.YtefofijdpacleaaDoor
