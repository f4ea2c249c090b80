/- The call of PagesSuits returns true, whatever encoding and type; nothing that was there is turned. -/
import Derived.Test.YtplbcbalelelaaaGreatSd
namespace Go.Proofs.YtplbcbalelelaaaGreat
open Go.RowKit
set_option linter.unusedSimpArgs false
set_option linter.unusedVariables false
def lawSuits (e k s : Int) : Bool :=
  checkT k s && (if e == 0 then true else if e == 3 then k == 0 else if e == 5 then k == 1 || k == 2 else if e == 6 then k == 6 else if e == 7 then k == 6 || k == 7 else
    if e == 8 then k != 0 else if e == 9 then k != 0 && k != 6 && decide (s ≤ 64) else false)
theorem suits_same (e k s : Int) : suitsP e k s = lawSuits e k s := by
  unfold suitsP lawSuits encTab kindsOf checkT
  by_cases h9 : e = 9; · subst h9; simp; by_cases hk : k = 0 ∨ k = 1 ∨ k = 2 ∨ k = 4 ∨ k = 5 ∨ k = 6 ∨ k = 7 <;> (try rcases hk with h | h | h | h | h | h | h <;> subst h <;> simp) <;> simp_all
  by_cases h7 : e = 7; · subst h7; simp; by_cases hk : k = 0 ∨ k = 1 ∨ k = 2 ∨ k = 4 ∨ k = 5 ∨ k = 6 ∨ k = 7 <;> (try rcases hk with h | h | h | h | h | h | h <;> subst h <;> simp) <;> simp_all
  by_cases h6 : e = 6; · subst h6; simp; rfl
  by_cases h5 : e = 5; · subst h5; simp; rfl
  by_cases h3 : e = 3; · subst h3; simp; rfl
  by_cases h8 : e = 8; · subst h8; simp; by_cases hk : k = 0 ∨ k = 1 ∨ k = 2 ∨ k = 4 ∨ k = 5 ∨ k = 6 ∨ k = 7 <;> (try rcases hk with h | h | h | h | h | h | h <;> subst h <;> simp) <;> simp_all
  by_cases h0 : e = 0; · subst h0; simp; by_cases hk : k = 0 ∨ k = 1 ∨ k = 2 ∨ k = 4 ∨ k = 5 ∨ k = 6 ∨ k = 7 <;> (try rcases hk with h | h | h | h | h | h | h <;> subst h <;> simp) <;> simp_all
  simp [h9, h7, h6, h5, h3, h8, h0]
set_option maxRecDepth 100000 in
set_option maxHeartbeats 1000000 in
theorem lawSuits_calls (e k s : Int) (w : World) : Calls Tryz.prog 8 #[.int .i64 e, .agg #[.int .i64 k, .int .i64 s]] w fun r w' => r = .returned (.bool (lawSuits e k s)) ∧ Chg nov w w' := by
  obtain ⟨r, hr⟩ : ∃ r, lawSuits e k s = r := ⟨_, rfl⟩
  rw [hr]
  obtain ⟨c, hc⟩ : ∃ c, checkT k s = c := ⟨_, rfl⟩
  have hck := refCheck_calls k s
  rw [hc] at hck
  replace hck := Lib.hid hck
  unfold lawSuits at hr
  rw [hc] at hr
  replace hr := Lib.hid hr
  replace hc := Lib.hid hc
  cases c
  all_goals
    go_enter Tryz.func8, Tryz.ntmps8
    go_wp2_with fail
    refine (hck.out _).mono ?_
    rintro r w1 ⟨rfl, hd⟩
    have hw := hd.obj (obj_new w _) id
    have q0 : w1.cell? ⟨w.heap.size, 0, none⟩ = some (.int .i64 k) := cell_of_obj hw 0
    have q1 : w1.cell? ⟨w.heap.size, 1, none⟩ = some (.int .i64 s) := cell_of_obj hw 1
    have hcc : Chg nov w w1 := ((Chg.refl nov w).alloc _).trans hd
    replace hcc := Lib.hid hcc
    clear hw hd
    go_wp2_with fail
  all_goals
    go_ret
    refine ⟨congrArg Ending.returned (congrArg Value.bool ?_), hcc.out⟩
    rw [← hr.out]
    clear hr hck hcc
    first | (simp [*]; done) | (simp_all; done)
set_option maxRecDepth 100000 in
set_option maxHeartbeats 1000000 in
theorem pagesSuits_calls (e k s : Int) (w : World) : Calls Tryz.prog 3 #[.int .i64 e, .agg #[.int .i64 k, .int .i64 s]] w fun r w' => r = .returned (.bool true) ∧ Chg nov w w' := by
  have h1 : ∀ W, Calls Tryz.prog 7 #[.int .i64 e, .agg #[.int .i64 k, .int .i64 s]] W fun r w' => r = .returned (.bool (lawSuits e k s)) ∧ Chg nov W w' := fun W => by
    rw [← suits_same]
    by_cases h : (encTab e).isSome = true
    · have := suits_some e k s W h
      unfold suitsP
      rw [h]; simpa using this
    · have h' : encTab e = none := by simpa using h
      have := suits_none e k s W h'
      unfold suitsP
      rw [h']; simpa using this
  have h2 := lawSuits_calls e k s
  generalize lawSuits e k s = b at *
  replace h1 := Lib.hid h1
  replace h2 := Lib.hid h2
  have q0 : (w.alloc (.cells #[.int .i64 k, .int .i64 s] 25)).cell? ⟨w.heap.size, 0, none⟩ = some (.int .i64 k) := by go_simp
  have q1 : (w.alloc (.cells #[.int .i64 k, .int .i64 s] 25)).cell? ⟨w.heap.size, 1, none⟩ = some (.int .i64 s) := by go_simp
  have r0 : ∀ t : Later nov (w.alloc (.cells #[.int .i64 k, .int .i64 s] 25)), t.val.cell? ⟨w.heap.size, 0, none⟩ = some (.int .i64 k) := fun t => t.chg.cell q0 id
  have r1 : ∀ t : Later nov (w.alloc (.cells #[.int .i64 k, .int .i64 s] 25)), t.val.cell? ⟨w.heap.size, 1, none⟩ = some (.int .i64 s) := fun t => t.chg.cell q1 id
  go_enter Tryz.func3, Tryz.ntmps3
  go_wp2_with fail
  refine wp_region_ws (F := nov) (cm := calm) [0, 1, 3, 4, 2, 5, 6, 7] (by kernel_rfl) (by kernel_rfl) (fun _ _ d _ _ h => by cases d <;> exact h) ?_
  repeat (first
    | (refine ws_calm rfl rfl (fun K hK => ?_); go_simp; refine hK _ _ ?_; clear hK K)
    | (refine ws_loud rfl rfl (fun K hK => ?_)
       go_simp
       first
         | (go_at_call 7
            refine (h1.out _).mono ?_
            rintro r w2 ⟨rfl, hd⟩
            replace hd := hd.drewL1
            refine ⟨hd, hK _ _ ?_⟩
            clear hK K)
         | (go_at_call 8
            refine (h2.out _).mono ?_
            rintro r w3 ⟨rfl, hd2⟩
            replace hd := hd.trans hd2
            refine ⟨hd, hK _ _ ?_⟩
            clear hK K hd2)))
  refine ws_nil ?_
  go_wp2_with fail
  go_ret
  exact ⟨rfl, ((Chg.refl nov w).alloc _).trans hd⟩
end Go.Proofs.YtplbcbalelelaaaGreat
