/-
  Plain facts about words: a list of bytes cut at single spaces (no program in sight).
-/
import Derived.Lib.SplitLaws
namespace Go.Proofs.YtefofijdpacleaaDoor
open Go.Lib
set_option linter.unusedVariables false

/-- the words of a list of bytes -/
def ws : List UInt8 → List (List UInt8)
  | [] => [[]]
  | c :: r => if c = 32 then [] :: ws r else match ws r with
    | h :: t => (c :: h) :: t
    | [] => [[c]]
theorem ws_ne (l : List UInt8) : ws l ≠ [] := by
  cases l with
  | nil => simp [ws]
  | cons c r =>
    unfold ws
    split
    · simp
    · split <;> simp
theorem ws_cons_ne {c : UInt8} (h : c ≠ 32) {r : List UInt8} {a : List UInt8} {t : List (List UInt8)} (e : ws r = a :: t) : ws (c :: r) = (c :: a) :: t := by
  show (if c = 32 then _ else _) = _
  rw [if_neg h, e]
theorem ws_sp (r : List UInt8) : ws (32 :: r) = [] :: ws r := by
  show (if (32 : UInt8) = 32 then _ else _) = _
  rw [if_pos rfl]
theorem index_zero (l : List UInt8) : index (32 :: l) [32] = 0 := by rw [index]; simp [List.isPrefixOf]
theorem index_succ {c : UInt8} (h : c ≠ 32) (l : List UInt8) : index (c :: l) [32] = if index l [32] == -1 then -1 else index l [32] + 1 := by
  have hp : ([32] : List UInt8).isPrefixOf (c :: l) = false := by simp [List.isPrefixOf, Ne.symm h]
  rw [index, hp]; simp
theorem splitK_hit {l : List UInt8} {j : Nat} (h : index l [32] = (j : Int)) (k : Nat) : splitK [32] 0 (k + 1) l = l.take j :: splitK [32] 0 k (l.drop (j + 1)) := by
  show (if (index l [32] == -1) = true then _ else _) = _
  rw [if_neg (fun e => by have := beq_iff_eq.1 e; omega), h]
  rfl
theorem splitK_ws : ∀ (l : List UInt8), splitK [32] 0 (count l [32]) l = ws l
  | [] => by rw [count_miss (by simp [index])]; rfl
  | c :: l => by
    have ih := splitK_ws l
    by_cases h : c = 32
    · subst h
      have hx := index_zero l
      rw [count_cons_eq, Nat.add_comm, ws_sp, splitK_hit (j := 0) hx]
      show [] :: splitK [32] 0 _ l = _
      rw [ih]
    · rw [count_cons_ne c 32 l h]
      cases hk : count l [32] with
      | zero =>
        rw [hk] at ih
        have e : ws l = [l] := ih.symm
        rw [ws_cons_ne h e]
        rfl
      | succ k =>
        rw [hk] at ih
        have hm : index l [32] ≠ -1 := fun e => by rw [count_miss e] at hk; cases hk
        have hge := index_ge l [32]
        obtain ⟨j, hj⟩ : ∃ j : Nat, index l [32] = j := ⟨(index l [32]).toNat, by omega⟩
        have hx : index (c :: l) [32] = ((j + 1 : Nat) : Int) := by rw [index_succ h, if_neg (fun e => hm (beq_iff_eq.1 e)), hj]; omega
        rw [splitK_hit hj] at ih
        rw [ws_cons_ne h ih.symm, splitK_hit hx]
        rfl
theorem ws_clean : ∀ (l : List UInt8), (∀ c ∈ l, c ≠ 32) → ws l = [l]
  | [], _ => rfl
  | c :: l, h => ws_cons_ne (h c (List.mem_cons_self ..)) (ws_clean l (fun x hx => h x (List.mem_cons_of_mem _ hx)))
theorem ws_app : ∀ (a b : List UInt8), (∀ c ∈ a, c ≠ 32) → ws (a ++ 32 :: b) = a :: ws b
  | [], b, _ => ws_sp b
  | c :: a, b, h => ws_cons_ne (h c (List.mem_cons_self ..)) (ws_app a b (fun x hx => h x (List.mem_cons_of_mem _ hx)))

/-- the words of a text -/
def wsB (s : ByteArray) : List ByteArray := (ws s.data.toList).map fun l => ⟨l.toArray⟩
def wordAt (s : ByteArray) (i : Nat) : ByteArray := (wsB s).getD i ByteArray.empty
theorem list_of (s : ByteArray) : (⟨s.data.toList.toArray⟩ : ByteArray) = s := rfl
theorem splitB_ws (s : ByteArray) : splitB ⟨#[32]⟩ 0 (countB s ⟨#[32]⟩) s = wsB s := by
  have h := splitB_data ⟨#[32]⟩ 0 (countB s ⟨#[32]⟩) s
  have e : (⟨#[32]⟩ : ByteArray).data.toList = [32] := rfl
  have e2 : countB s ⟨#[32]⟩ = count s.data.toList [32] := rfl
  rw [e, e2, splitK_ws] at h
  unfold wsB
  rw [← h, e2, List.map_map]
  conv => lhs; rw [← List.map_id (splitB _ _ _ _)]
  rfl
theorem wsB_length (s : ByteArray) : (wsB s).length = countB s ⟨#[32]⟩ + 1 := by
  rw [← splitB_ws]; exact splitB_all _ (by decide) _ _ _ rfl
theorem wsB_le (s : ByteArray) : (wsB s).length ≤ s.size + 1 := by
  have := countB_le ⟨#[32]⟩ (by decide) s.size s (Nat.le_refl _)
  rw [wsB_length]; omega
theorem wordAt_get {s : ByteArray} {i : Nat} (h : i < (wsB s).length) : (wsB s)[i]? = some (wordAt s i) := by
  unfold wordAt; simp [h]
/-- all words are there -/
def Full (s : ByteArray) : Prop := ∀ x ∈ wsB s, x.size ≠ 0
/-- what the reference's loop keeps: at place k, the word under way began at fr, those before it are done -/
def SpRel (s : ByteArray) (k fr : Nat) (done : List ByteArray) : Prop :=
  (k ≤ s.size ∧ fr ≤ k ∧ (∀ j, fr ≤ j → (h : j < k) → (h2 : j < s.size) → s[j] ≠ 32) ∧ done ++ (ws (s.data.toList.drop fr)).map (fun l => ⟨l.toArray⟩) = wsB s) ∨ (k = s.size + 1 ∧ done = wsB s)
theorem sp_start (s : ByteArray) : SpRel s 0 0 [] := .inl ⟨Nat.zero_le _, Nat.le_refl _, fun j _ h => absurd h (by omega), by simp [wsB]⟩
theorem get_list {s : ByteArray} {k : Nat} (h : k < s.size) : s.data.toList[k]? = some s[k] := by
  rw [Array.getElem?_toList, Array.getElem?_eq_getElem (show k < s.data.size from h)]; rfl
theorem size_list' (s : ByteArray) : s.size = s.data.toList.length := (Array.length_toList (xs := s.data)).symm
theorem ext_list (s : ByteArray) (a b : Nat) : (s.extract a b).data.toList = (s.data.toList.drop a).take (b - a) := by
  rw [ByteArray.data_extract, Array.toList_extract, List.extract_eq_take_drop]
theorem sp_mid {s : ByteArray} {k fr : Nat} {done : List ByteArray} (h : SpRel s k fr done) (hk : k < s.size) (hc : s[k] ≠ 32) : SpRel s (k + 1) fr done := by
  rcases h with ⟨h1, h2, h3, h4⟩ | ⟨h1, _⟩
  · refine .inl ⟨by omega, by omega, fun j hj hlt hs => ?_, h4⟩
    by_cases e : j = k
    · subst e; exact hc
    · exact h3 j hj (by omega) hs
  · omega
theorem piece_clean {s : ByteArray} {k fr : Nat} (hk : k ≤ s.size) (h3 : ∀ j, fr ≤ j → (h : j < k) → (h2 : j < s.size) → s[j] ≠ 32) : ∀ c ∈ (s.data.toList.drop fr).take (k - fr), c ≠ 32 := by
  intro c hm
  obtain ⟨i, hi⟩ := List.mem_iff_getElem?.1 hm
  rw [List.getElem?_take] at hi
  split at hi
  · next hlt =>
    rw [List.getElem?_drop] at hi
    have hl : fr + i < s.size := by omega
    rw [get_list hl] at hi
    injection hi with hi
    rw [← hi]
    exact h3 (fr + i) (by omega) (by omega) hl
  · cases hi
theorem sp_cut {s : ByteArray} {k fr : Nat} {done : List ByteArray} (h : SpRel s k fr done) (hk : k < s.size) (hc : s[k] = 32) : SpRel s (k + 1) (k + 1) (done ++ [s.extract fr k]) := by
  rcases h with ⟨h1, h2, h3, h4⟩ | ⟨h1, _⟩
  · refine .inl ⟨by omega, Nat.le_refl _, fun j _ h => absurd h (by omega), ?_⟩
    have e : s.data.toList.drop fr = (s.data.toList.drop fr).take (k - fr) ++ 32 :: s.data.toList.drop (k + 1) := by
      conv => lhs; rw [← List.take_append_drop (k - fr) (s.data.toList.drop fr)]
      congr 1
      rw [List.drop_drop, show fr + (k - fr) = k by omega]
      have hl : k < s.data.toList.length := by rw [← size_list']; exact hk
      rw [List.drop_eq_getElem_cons hl]
      have h5 := get_list hk
      rw [List.getElem?_eq_getElem hl] at h5
      injection h5 with h5
      rw [h5, hc]
    rw [e, ws_app _ _ (piece_clean (by omega) h3), List.map_cons] at h4
    rw [← h4, List.append_assoc]
    congr 1
    show s.extract fr k :: _ = _
    congr 1
    apply ByteArray.ext
    apply Array.toList_inj.1
    rw [ext_list]
  · omega
theorem sp_end {s : ByteArray} {fr : Nat} {done : List ByteArray} (h : SpRel s s.size fr done) (hf : fr ≤ s.size) : SpRel s (s.size + 1) (s.size + 1) (done ++ [s.extract fr s.size]) := by
  rcases h with ⟨h1, h2, h3, h4⟩ | ⟨h1, _⟩
  · refine .inr ⟨rfl, ?_⟩
    have e : (s.data.toList.drop fr).take (s.size - fr) = s.data.toList.drop fr := List.take_of_length_le (by rw [List.length_drop, ← size_list']; exact Nat.le_refl _)
    have h5 := piece_clean (Nat.le_refl _) h3
    rw [e] at h5
    rw [ws_clean _ h5] at h4
    rw [← h4]
    congr 1
    simp only [List.map_cons, List.map_nil]
    congr 1
    apply ByteArray.ext
    apply Array.toList_inj.1
    rw [ext_list, e]
  · omega
/-- the word under way is among the words -/
theorem sp_word {s : ByteArray} {k fr : Nat} {done : List ByteArray} (h : SpRel s k fr (done ++ [s.extract fr k])) : s.extract fr k ∈ wsB s := by
  rcases h with ⟨_, _, _, h4⟩ | ⟨_, h4⟩
  · rw [← h4]; simp
  · rw [← h4]; simp
theorem sp_mem {s : ByteArray} {k k' fr fr' : Nat} {done : List ByteArray} (h : SpRel s k' fr' (done ++ [s.extract fr k])) : s.extract fr k ∈ wsB s := by
  rcases h with ⟨_, _, _, h4⟩ | ⟨_, h4⟩
  · rw [← h4]; simp
  · rw [← h4]; simp
theorem sp_len {s : ByteArray} {k fr : Nat} {done : List ByteArray} (h : SpRel s k fr done) : done.length ≤ (wsB s).length := by
  rcases h with ⟨_, _, _, h4⟩ | ⟨_, h4⟩
  · rw [← h4, List.length_append]; omega
  · rw [← h4]; exact Nat.le_refl _
theorem word_size (s : ByteArray) : ∀ x ∈ wsB s, x.size ≤ s.size := by
  have h : ∀ l : List UInt8, ∀ a ∈ ws l, a.length ≤ l.length := by
    intro l
    induction l with
    | nil => intro a ha; simp [ws] at ha; subst ha; exact Nat.le_refl _
    | cons c r ih =>
      intro a ha
      by_cases e : c = 32
      · subst e
        rw [ws_sp] at ha
        rcases List.mem_cons.1 ha with rfl | ha
        · exact Nat.zero_le _
        · have := ih a ha; rw [List.length_cons]; omega
      · cases hw : ws r with
        | nil => exact absurd hw (ws_ne r)
        | cons b t =>
          rw [ws_cons_ne e hw] at ha
          rw [hw] at ih
          rcases List.mem_cons.1 ha with rfl | ha
          · have := ih b (List.mem_cons_self ..); simp only [List.length_cons]; omega
          · have := ih a (List.mem_cons_of_mem _ ha); rw [List.length_cons]; omega
  intro x hx
  unfold wsB at hx
  obtain ⟨a, ha, rfl⟩ := List.mem_map.1 hx
  have := h _ a ha
  rw [size_list', size_list' s]
  exact this
end Go.Proofs.YtefofijdpacleaaDoor
