/- Contracts of slices.Contains at kinds, pages.inDict, the document's Check: for every input. -/
import Derived.Test.YtplbcbalelelaaaGreatSb
namespace Go.Proofs.YtplbcbalelelaaaGreat
open Go.RowKit
set_option linter.unusedSimpArgs false
set_option linter.unusedVariables false
def findI (k : Int) : List Int → Nat → Int
  | [], _ => -1
  | x :: l, i => if k = x then (i : Int) else findI k l (i + 1)
theorem findI_skip (k : Int) (l : List Int) : ∀ n, n ≤ l.length → (∀ x ∈ l.take n, k ≠ x) → findI k l 0 = findI k (l.drop n) n
  | 0, _, _ => rfl
  | n + 1, hn, h => by
    have hlt : n < l.length := by omega
    rw [List.take_succ_eq_append_getElem hlt] at h
    rw [findI_skip k l n (by omega) (fun x hx => h x (List.mem_append_left _ hx)), List.drop_eq_getElem_cons hlt, findI, if_neg]
    exact h l[n] (List.mem_append_right _ (List.mem_singleton.2 rfl))
theorem findI_mem (k : Int) : ∀ (l : List Int) (i : Nat), decide (0 ≤ findI k l i) = l.contains k
  | [], i => rfl
  | x :: l, i => by
    unfold findI
    rw [List.contains_cons]
    by_cases h : k = x
    · simp [h]
    · simp only [h, if_false]; rw [findI_mem k l (i + 1)]; simp [h]
set_option maxRecDepth 100000 in
set_option maxHeartbeats 1000000 in
theorem index_calls (k : Int) (l : List Int) (w : World) (A : Option Addr) (c : Nat) (hs : Rd intV w A l) (hn : l.length < 2^50) :
    Calls Tryz.prog 45 #[.slice A l.length c, .int .i64 k] w fun e w' => e = .returned (.int .i64 (findI k l 0)) ∧ w = w' := by
  go_enter Tryz.func45, Tryz.ntmps45
  go_wp2_with fail
  go_loop [8] (fun i => ∃ n : Nat, n ≤ l.length ∧ i = .int .i64 n ∧ ∀ x ∈ l.take n, k ≠ x) (fun i => l.length - (intOf i).toNat)
  case atStart => exact ⟨0, by omega, rfl, by simp⟩
  case round =>
    obtain ⟨n, hn1, rfl, hb⟩ := hrel
    by_cases hlt : n < l.length
    · obtain ⟨a, rfl, hc⟩ := hs.at_ hlt
      simp only [intV] at hc
      have hx := findI_skip k l n (by omega) hb
      rw [List.drop_eq_getElem_cons hlt, findI] at hx
      have hdec : decide ((n : Int) < l.length) = true := by simpa using hlt
      replace hb := Lib.hid hb
      replace hx := Lib.hid hx
      generalize hy : l[n] = y at *
      replace hy := Lib.hid hy
      by_cases hpy : k = y
      · have hq : (k == y) = true := by simpa using hpy
        replace hpy := Lib.hid hpy
        go_wp2_with fail
        go_ret
        have h : findI k l 0 = n := by rw [hx.out, if_pos hpy.out]
        exact ⟨by rw [← hpy.out]; exact congrArg Ending.returned (congrArg (Value.int IntKind.i64) h.symm), rfl⟩
      · have hq : (k == y) = false := by simpa using hpy
        go_wp2_with fail
        go_round
        case rel =>
          refine ⟨n + 1, by omega, by go_num, fun x hx => ?_⟩
          rw [List.take_succ_eq_append_getElem hlt] at hx
          rcases List.mem_append.1 hx with hx | hx
          · exact hb.out x hx
          · rw [List.mem_singleton.1 hx, hy.out]; exact hpy
        case measure => simp [intOf]; omega
    · have hkn : n = l.length := by omega
      have hx := findI_skip k l n (by omega) hb
      replace hx := Lib.hid hx
      clear hb
      subst hkn
      go_wp2_with fail
      go_ret
      exact ⟨by rw [hx.out, List.drop_of_length_le (by omega)]; rfl, rfl⟩
set_option maxRecDepth 100000 in
set_option maxHeartbeats 1000000 in
theorem contains_calls (k : Int) (l : List Int) (w : World) (A : Option Addr) (c : Nat) (hs : Rd intV w A l) (hn : l.length < 2^50) :
    Calls Tryz.prog 21 #[.slice A l.length c, .int .i64 k] w fun e w' => e = .returned (.bool (l.contains k)) ∧ w = w' := by
  have h1 := index_calls k l w A c hs hn
  have h2 := Lib.hid (findI_mem k l 0)
  clear hs
  generalize findI k l 0 = r at *
  replace h1 := Lib.hid h1
  go_enter Tryz.func21, Tryz.ntmps21
  go_wp2_with fail
  refine h1.out.mono ?_
  rintro e w1 ⟨rfl, rfl⟩
  go_wp2_with fail
  go_ret
  exact ⟨by rw [← h2.out]; rfl, rfl⟩
theorem field59 (a b c : Value) (w : World) : (Instr.field 59 (.agg #[a, b, c]) 0).run Tryz.prog w = .ok a w := by kernel_rfl
set_option maxRecDepth 100000 in
set_option maxHeartbeats 1000000 in
theorem inDict_calls (w : World) : Calls Tryz.prog 38 #[] w (EncIs [1, 2, 4, 5, 6, 7] w) := by
  have hfl := field59
  go_enter Tryz.func38, Tryz.ntmps38
  go_wp2_with fail
  refine (inPlain_calls _).mono ?_
  rintro e w1 ⟨A, c, f, g, rfl, hle, hA, hr, hc⟩
  have hw := hc.obj (obj_new w _) id
  have q0 : w1.cell? ⟨w.heap.size, 0, none⟩ = some (.slice none 0 0) := cell_of_obj hw 0
  have q1 : w1.cell? ⟨w.heap.size, 1, none⟩ = some .nilFunc := cell_of_obj hw 1
  have q2 : w1.cell? ⟨w.heap.size, 2, none⟩ = some .nilFunc := cell_of_obj hw 2
  have f0 := frozen_of_obj hw 0
  have f1 := frozen_of_obj hw 1
  have f2 := frozen_of_obj hw 2
  obtain ⟨ad, rfl, hcell⟩ := hr.at_ (k := 0) (by simp)
  have hne : ¬ c = 1 := by simp at hle; omega
  have hr1 := hr.drop (k := 1) (cap := c) hle
  rw [if_neg hne] at hr1
  have hne2 : w.heap.size + 1 ≤ ad.block := by simpa using hA ad rfl
  have hne3 : ¬ ad.block = w.heap.size := by omega
  replace hw := Lib.hid hw
  clear hcell hr hA
  go_wp2_with fail
  refine bodyPost_ret (v := .agg #[.slice (some ⟨ad.block, ad.off + 1, none⟩) 6 (c - 1), .func (.func 58) #[] #[], .func (.func 61) #[] #[]]) (by simp [results, Tryz.results38, go_sem, *]) rfl ⟨_, _, _, _, rfl, by simp at hle ⊢; omega, fun a h => by cases h; simp; omega, ?_, ?_⟩
  · have hk : Chg (· = w.heap.size) w1 _ := (((Chg.refl (· = w.heap.size) w1).setCell (p := ⟨w.heap.size, 0, none⟩) (.inl rfl) (Value.slice (some ⟨ad.block, ad.off + 1, none⟩) 6 (c - 1))).setCell (p := ⟨w.heap.size, 1, none⟩) (.inl rfl) (.func (.func 58) #[] #[])).setCell (p := ⟨w.heap.size, 2, none⟩) (.inl rfl) (.func (.func 61) #[] #[])
    exact hr1.chg hk (fun a h e => by cases h; exact hne3 (by rw [block_add] at e; exact e))
  · have hk : Chg (· = w.heap.size) w1 _ := (((Chg.refl (· = w.heap.size) w1).setCell (p := ⟨w.heap.size, 0, none⟩) (.inl rfl) (Value.slice (some ⟨ad.block, ad.off + 1, none⟩) 6 (c - 1))).setCell (p := ⟨w.heap.size, 1, none⟩) (.inl rfl) (.func (.func 58) #[] #[])).setCell (p := ⟨w.heap.size, 2, none⟩) (.inl rfl) (.func (.func 61) #[] #[])
    exact (((Chg.refl nov w).alloc _).trans hc).step hk (fun k h e => absurd e (Nat.ne_of_lt h))
set_option maxRecDepth 100000 in
set_option maxHeartbeats 1000000 in
theorem refCheck_calls (k s : Int) (w : World) : Calls Tryz.prog 17 #[.agg #[.int .i64 k, .int .i64 s]] w fun e w' => e = .returned (.bool (checkT k s)) ∧ Chg nov w w' := by
  obtain ⟨r, hr⟩ : ∃ r, checkT k s = r := ⟨_, rfl⟩
  rw [hr]
  replace hr := Lib.hid hr
  go_enter Tryz.func17, Tryz.ntmps17
  go_wp2_with fail
  all_goals
    go_ret
    refine ⟨congrArg Ending.returned (congrArg Value.bool ?_), (Chg.refl _ _).alloc _⟩
    rw [← hr.out]
    clear hr
    unfold checkT
    first | (simp [*]; done) | (simp_all; done) | (simp_all; omega)
end Go.Proofs.YtplbcbalelelaaaGreat
