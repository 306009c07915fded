/-
  Contracts of the program's and the reference's ParseCond, and that they give the same.
-/
import Derived.Test.YtkkhaamklbolmaaRead4
import Derived.Test.YtkkhaamklbolmaaNegateLaw
namespace Go.Proofs.Ytkkhaamklbolmaa
open Go.RowKit Go.Sort
set_option linter.unusedVariables false
set_option linter.unusedSimpArgs false

/-! ### the nodes that come -/
def NdQ (n : Nat) (x : Nd) : Prop := (0 ≤ x.1 ∧ x.1 ≤ 4) ∧ x.2.1.size ≤ n ∧ x.2.2.size ≤ n
def AllQ (n : Nat) (s : St) : Prop := ∀ x ∈ s.L, NdQ n x
theorem AllQ.add {n : Nat} {s t : St} {x : Nd} (h : AllQ n s) (e : t.L = s.L ++ [x]) (hx : NdQ n x) : AllQ n t := by
  intro y hy
  rw [e, List.mem_append, List.mem_singleton] at hy
  rcases hy with hy | rfl
  · exact h y hy
  · exact hx
theorem ndQ_op (n : Nat) (k : Int) (h : 0 ≤ k ∧ k ≤ 4) : NdQ n (k, mt, mt) := ⟨h, by show mt.size ≤ n; exact Nat.zero_le _, by show mt.size ≤ n; exact Nat.zero_le _⟩
theorem ext_le (S : ByteArray) (i j : Nat) : (S.extract i j).size ≤ S.size := by rw [ByteArray.size_extract]; omega
section
variable {S : ByteArray} {n : Nat}
theorem tail_all {t : ByteArray} {x : Nd} {add : St → Nd → St} (hadd : ∀ s x, (add s x).L = s.L ++ [x]) (hx : NdQ n x) {f : St → St → Prop} (hf : ∀ s a, f s a → AllQ n s → AllQ n a) {s b : St} (h : Tail S t x add f s b) : AllQ n s → AllQ n b := by
  induction h with
  | stop _ => exact id
  | @more s a b hb h hf' ht ih => intro hs; exact ih ((hf _ _ hf' hs).add (hadd _ _) hx)
theorem and_all {add : St → Nd → St} (hadd : ∀ s x, (add s x).L = s.L ++ [x]) {f : St → St → Prop} (hf : ∀ s a, f s a → AllQ n s → AllQ n a) {s b : St} (h : AndR S add f s b) : AllQ n s → AllQ n b := by
  obtain ⟨a, ha, ht⟩ := h
  exact fun hs => tail_all hadd (ndQ_op _ _ (by omega)) hf ht (hf _ _ ha hs)
theorem or_all {add : St → Nd → St} (hadd : ∀ s x, (add s x).L = s.L ++ [x]) {f : St → St → Prop} (hf : ∀ s a, f s a → AllQ n s → AllQ n a) {s b : St} (h : OrR S add f s b) : AllQ n s → AllQ n b := by
  obtain ⟨a, ha, ht⟩ := h
  exact fun hs => tail_all hadd (ndQ_op _ _ (by omega)) (fun s a h => and_all hadd hf h) ht (and_all hadd hf ha hs)
end
theorem iNot_all (S : ByteArray) : ∀ (d : Nat) (s b : St), iNot S d s b → AllQ S.size s → AllQ S.size b := by
  intro d
  induction d with
  | zero => intro s b h hs; simp only [iNot] at h; subst h; exact hs
  | succ d ih =>
    intro s b h hs
    simp only [iNot] at h
    rcases h with ⟨_, a, ha, rfl⟩ | ⟨_, _, a, ha, h⟩ | ⟨_, _, j, hj, h⟩
    · exact AllQ.add (ih _ _ ha hs) rfl (ndQ_op _ _ (by omega))
    · have g := or_all (n := S.size) (fun _ _ => rfl) ih ha hs
      rcases h with ⟨_, _, rfl⟩ | ⟨_, rfl⟩ <;> exact g
    · rcases h with ⟨_, rfl⟩ | ⟨_, _, k, hk, rfl⟩ | ⟨_, _, _, rfl⟩ | ⟨_, _, _, rfl⟩
      · exact hs
      · exact AllQ.add hs rfl ⟨by simp, ext_le _ _ _, ext_le _ _ _⟩
      · exact AllQ.add hs rfl (ndQ_op _ _ (by omega))
      · exact hs
theorem sNot_all (S : ByteArray) : ∀ (d : Nat) (s b : St), sNot S d s b → AllQ S.size s → AllQ S.size b := by
  intro d
  induction d with
  | zero => intro s b h hs; simp only [sNot] at h; subst h; exact hs
  | succ d ih =>
    intro s b h hs
    simp only [sNot] at h
    rcases h with ⟨_, rfl⟩ | ⟨_, _, a, ha, h⟩ | ⟨_, _, _, a, ha, rfl⟩ | ⟨_, _, _, j, hj, h⟩
    · exact hs
    · have g := or_all (n := S.size) (fun _ _ => rfl) ih ha hs
      rcases h with ⟨_, rfl⟩ | ⟨_, rfl⟩ <;> exact g
    · exact AllQ.add (ih _ _ ha hs) rfl (ndQ_op _ _ (by omega))
    · rcases h with ⟨_, k, hk, rfl⟩ | ⟨_, _, rfl⟩ | ⟨_, _, rfl⟩
      · exact AllQ.add hs rfl ⟨by simp, ext_le _ _ _, ext_le _ _ _⟩
      · exact AllQ.add hs rfl (ndQ_op _ _ (by omega))
      · exact AllQ.add hs rfl (ndQ_op _ _ (by omega))
def st0 : St := ⟨0, [], false⟩
/-- what the program's reader makes of the whole text -/
def ReadI (S : ByteArray) (b : St) : Prop := OrR S iAdd (iNot S 31) st0 b
def ReadS (S : ByteArray) (b : St) : Prop := OrR S sAdd (sNot S 31) st0 b
def okB (S : ByteArray) (b : St) : Bool := !b.bad && (decide (b.i = S.size) && isCondB (ndK b.L) (ndO b.L) (ndV b.L) b.L.length)
def okL (S : ByteArray) (b : St) : List Nd := if okB S b then b.L else []
theorem isCond_at {L : List Nd} (h : isCondB (ndK L) (ndO L) (ndV L) L.length = true) {j : Nat} (hj : j < L.length) : okN (ndK L j) (ndO L j) (ndV L j) = true := by
  obtain ⟨x, hx⟩ := runN_all h (show j + 1 ≤ L.length by omega)
  obtain ⟨_, _, ho, _⟩ := runN_step hx
  exact ho
theorem good_of {L : List Nd} (h : isCondB (ndK L) (ndO L) (ndV L) L.length = true) : Good L := by
  refine ⟨isCondB_le h, fun x hx hk => ?_⟩
  obtain ⟨j, hj, rfl⟩ := List.mem_iff_getElem.1 hx
  have ho := isCond_at h hj
  have e : L.getD j (0, mt, mt) = L[j] := by simp [List.getD_eq_getElem?_getD, hj]
  unfold ndK ndO ndV at ho
  rw [e] at ho
  rw [hk, okN_one, Bool.and_eq_true] at ho
  exact ho
theorem read_same {S : ByteArray} {a b : St} (ha : ReadI S a) (hb : ReadS S b) : okB S a = okB S b ∧ okL S a = okL S b := by
  have A := read_agree tTrue_code ha hb
  have key : okB S a = true ∨ okB S b = true → a = b := by
    rintro (h | h)
    · unfold okB at h
      simp only [Bool.and_eq_true, Bool.not_eq_true'] at h
      exact (A.1 h.1).symm
    · unfold okB at h
      simp only [Bool.and_eq_true, Bool.not_eq_true'] at h
      exact A.2 h.1 (good_of h.2.2)
  by_cases h : okB S a = true ∨ okB S b = true
  · have := key h; subst this; exact ⟨rfl, rfl⟩
  · have h1 : okB S a = false := by cases e : okB S a <;> simp_all
    have h2 : okB S b = false := by cases e : okB S b <;> simp_all
    exact ⟨by rw [h1, h2], by unfold okL; rw [h1, h2]; rfl⟩
theorem okL_len (S : ByteArray) (b : St) : (okL S b).length ≤ 30 := by
  unfold okL
  split
  · next h => unfold okB at h; simp only [Bool.and_eq_true] at h; exact isCondB_le h.2.2
  · simp
theorem okL_bd {S : ByteArray} {b : St} (hq : AllQ S.size b) : ∀ x ∈ okL S b, (0 ≤ x.1 ∧ x.1 ≤ 4) ∧ x.2.1.size ≤ 8 ∧ x.2.2.size ≤ 8 := by
  intro x hx
  unfold okL at hx
  split at hx
  · next h =>
    unfold okB at h; simp only [Bool.and_eq_true] at h
    have q := hq x hx
    refine ⟨q.1, ?_⟩
    by_cases hk : x.1 = 1
    · have := (good_of h.2.2).2 x hx hk
      exact ⟨(isC_iff.1 this.1).2.1, (isC_iff.1 this.2).2.1⟩
    · obtain ⟨j, hj, rfl⟩ := List.mem_iff_getElem.1 hx
      have ht := texts_of h.2.2 j hj
      have e : b.L.getD j (0, mt, mt) = b.L[j] := by simp [List.getD_eq_getElem?_getD, hj]
      unfold ndK ndO ndV at ht
      rw [e] at ht
      obtain ⟨t1, t2⟩ := ht hk
      rw [t1, t2]; exact ⟨by decide, by decide⟩
  · simp at hx
theorem nd_readsQ {w : World} {A : Option Addr} {c : Nat} {L : List Nd} {n : Nat} (hn : n ≤ 1000000000) (h : SliceF w A L.length c 3 (ndC L)) (hb : ∀ x ∈ L, NdQ n x) : CondNodeF w A L.length c (ndK L) (ndO L) (ndV L) := by
  have key : ∀ i (hi : i < L.length), L.getD i (0, mt, mt) ∈ L := fun i hi => by rw [List.getD_eq_getElem?_getD, List.getElem?_eq_getElem hi]; exact List.getElem_mem hi
  refine ⟨h.congr (fun _ _ _ _ => rfl), fun i hi => ?_, fun i hi => ?_, fun i hi => ?_⟩
  · have := (hb _ (key i hi)).1; unfold ndK; omega
  · have := (hb _ (key i hi)).2.1; unfold ndO; omega
  · have := (hb _ (key i hi)).2.2; unfold ndV; omega
theorem all0 (n : Nat) : AllQ n st0 := fun x hx => by simp [st0] at hx
theorem whole (S : ByteArray) : S.extract 0 S.size = S := by simp
/-- ParseCond of the program -/
def ParseRet (R : ByteArray → St → Prop) (S : ByteArray) (w : World) (e : Ending) (w' : World) : Prop := ∃ b, R S b ∧ AllQ S.size b ∧ NegRet w (okL S b) (okB S b) e w'
set_option maxRecDepth 20000 in
set_option maxHeartbeats 4000000 in
theorem impl_ParseCond (S : ByteArray) (w : World) (hS : S.size ≤ 1048576) : Calls Try.prog 35 #[.string S] w (ParseRet ReadI S w) := by
  obtain ⟨w1, hw1⟩ : ∃ w1, w1 = w.alloc (.cells #[.string S, .slice none 0 0, .bool false] 95) := ⟨_, rfl⟩
  have h1 : RdI S w.heap.size w.heap.size w1 st0 none 0 := by
    rw [hw1]
    refine ⟨Nat.le_refl _, row_lit w _ _ 3 _ (by simp) (fun q hq => ?_), OwnV.nil _ _ _ _ _, by simp [Value.ownBlock], Nat.zero_le _, by omega⟩
    rcases (by omega : q = 0 ∨ q = 1 ∨ q = 2) with rfl | rfl | rfl
    · show some (Value.string S) = some (.string (S.extract 0 S.size)); rw [whole]
    · rfl
    · rfl
  have b1 : Below w.heap.size w w1 := by rw [hw1]; exact (Below.refl _ _).alloc (Nat.le_refl _) _
  have H1 := Lib.hid h1
  have B1 := Lib.hid b1
  have hN : HfI S (31 + 3 * 31) (iNot S 31) := iNot_step S 31
  have AN := Lib.hid (impl_and S w.heap.size w.heap.size 0 (iNot S 31) (31 + 3 * 31) (by omega) (by omega) hN (impl_not S w.heap.size w.heap.size 31 0 (by omega) (by omega)))
  have OR := Lib.hid (impl_or S w.heap.size w.heap.size 0 (AndR S iAdd (iNot S 31)) (31 + 3 * 31 + 1) (by omega) (by omega) (hN.and (by omega)) AN.out)
  have HW := Lib.hid hw1
  have sz1 : w.heap.size ≤ w1.heap.size := b1.size
  clear h1 b1 hN hw1
  go_enter Try.func35, Try.ntmps35
  go_wp2_with fail
  rw [← HW.out]
  refine (OR.out w1 st0 none 0 H1.out rfl (by show (0 : Nat) ≤ 30; omega)).mono ?_
  rintro e w2 ⟨rfl, b, hb, ⟨A2, c2, h2⟩, b2⟩
  have hrd : ReadI S b := barR_or.1 hb
  have hall : AllQ S.size b := or_all (fun _ _ => rfl) (iNot_all S 31) hrd (all0 _)
  have RD := Lib.hid hrd
  have AL := Lib.hid hall
  have H2 := Lib.hid h2
  have B2 := Lib.hid (B1.out.trans b2)
  have k0 := h2.c0
  have k1 := h2.c1
  have k2 := h2.c2
  have hle := h2.le
  have hrs := rest_size hle
  obtain ⟨R, hR⟩ : ∃ R, R = S.extract b.i S.size := ⟨_, rfl⟩
  rw [← hR] at k0 hrs
  clear hb h2 b2 hrd hall hR OR AN
  by_cases hbad : b.bad = true
  · rw [hbad] at k2
    have hno : okB S b = false := by unfold okB; rw [hbad]; rfl
    have hnl : okL S b = [] := by unfold okL; rw [hno]; rfl
    have NO := Lib.hid hno
    have NL := Lib.hid hnl
    clear hno hnl hbad hrs
    go_wp2_with fail
    go_ret2
    exact ⟨b, RD.out, AL.out, none, 0, by rw [NO.out, NL.out]; rfl, by rw [NL.out]; exact OwnV.nil _ _ _ _ _, B2.out⟩
  have hbad : b.bad = false := by simpa using hbad
  rw [hbad] at k2
  by_cases hend : b.i = S.size
  case neg =>
    have hno : okB S b = false := by unfold okB; rw [decide_eq_false hend]; simp
    have hnl : okL S b = [] := by unfold okL; rw [hno]; rfl
    have hem : R.toList.isEmpty = false := by rw [emp_size]; exact decide_eq_false (by omega)
    have NO := Lib.hid hno
    have NL := Lib.hid hnl
    clear hno hnl hrs
    go_wp2_with fail
    go_ret2
    exact ⟨b, RD.out, AL.out, none, 0, by rw [NO.out, NL.out]; rfl, by rw [NL.out]; exact OwnV.nil _ _ _ _ _, B2.out⟩
  have hem : R.toList.isEmpty = true := by rw [emp_size]; exact decide_eq_true (by omega)
  have CN := Lib.hid (nd_readsQ (n := S.size) (by omega) (own_slice H2.out.own).1 AL.out)
  obtain ⟨q, hq⟩ : ∃ q, q = isCondB (ndK b.L) (ndO b.L) (ndV b.L) b.L.length := ⟨_, rfl⟩
  have hok : okB S b = q := by unfold okB; rw [hbad, hend, ← hq]; simp
  have OK := Lib.hid hok
  have HQ := Lib.hid hq
  clear hok hq hrs hbad hend
  cases q
  · have hnl : okL S b = [] := by unfold okL; rw [OK.out]; rfl
    have NL := Lib.hid hnl
    clear hnl
    go_wp2_with fail
    refine (impl_IsCond _ A2 b.L.length c2 _ _ _ CN.out).mono ?_; rintro e w3 ⟨rfl, b3⟩
    rw [← HQ.out]
    have B3 := Lib.hid (B2.out.trans (b3.mono (by have := B2.out.size; omega)))
    clear b3
    go_wp2_with fail
    go_ret2
    exact ⟨b, RD.out, AL.out, none, 0, by rw [OK.out, NL.out]; rfl, by rw [NL.out]; exact OwnV.nil _ _ _ _ _, B3.out⟩
  · have hnl : okL S b = b.L := by unfold okL; rw [OK.out]; rfl
    have NL := Lib.hid hnl
    clear hnl
    go_wp2_with fail
    refine (impl_IsCond _ A2 b.L.length c2 _ _ _ CN.out).mono ?_; rintro e w3 ⟨rfl, b3⟩
    rw [← HQ.out]
    have B3 := Lib.hid (B2.out.trans (b3.mono (by have := B2.out.size; omega)))
    have h3 := H2.out.call b3
    have H3 := Lib.hid h3
    have j1 := h3.c1
    clear b3 h3
    go_wp2_with fail
    go_ret2
    exact ⟨b, RD.out, AL.out, A2, c2, by rw [OK.out, NL.out]; rfl, by rw [NL.out]; exact H3.out.own, B3.out⟩
end Go.Proofs.Ytkkhaamklbolmaa
