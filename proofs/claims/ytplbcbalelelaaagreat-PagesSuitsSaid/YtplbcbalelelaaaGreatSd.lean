/- Contract of pages.Suits: for every encoding and type. -/
import Derived.Test.YtplbcbalelelaaaGreatSc
import Derived.Test.YtplbcbalelelaaaGreatReg
namespace Go.Proofs.YtplbcbalelelaaaGreat
open Go.RowKit
set_option linter.unusedSimpArgs false
set_option linter.unusedVariables false
def kindsOf (e : Int) : List Int :=
  if e = 9 then [1, 2, 4, 5, 7] else if e = 7 then [6, 7] else if e = 6 then [6] else if e = 5 then [1, 2] else
  if e = 3 then [0] else if e = 8 then [1, 2, 4, 5, 6, 7] else [0, 1, 2, 4, 5, 6, 7]
def suitsP (e k s : Int) : Bool := (encTab e).isSome && checkT k s && (kindsOf e).contains k && (e != 9 || decide (s ≤ 64))
theorem ent37 : Ent 37 := ent_of Tryz.func37 (by kernel_rfl) rfl
theorem ent38 : Ent 38 := ent_of Tryz.func38 (by kernel_rfl) rfl
theorem ent39 : Ent 39 := ent_of Tryz.func39 (by kernel_rfl) rfl
theorem ent40 : Ent 40 := ent_of Tryz.func40 (by kernel_rfl) rfl
theorem ent41 : Ent 41 := ent_of Tryz.func41 (by kernel_rfl) rfl
theorem ent42 : Ent 42 := ent_of Tryz.func42 (by kernel_rfl) rfl
theorem ent43 : Ent 43 := ent_of Tryz.func43 (by kernel_rfl) rfl
theorem encSpec (e : Int) (h : (encTab e).isSome = true) : ∃ g, encTab e = some (.func (.func g) #[] #[]) ∧ Ent g ∧ ∀ W, Calls Tryz.prog g #[] W (EncIs (kindsOf e) W) := by
  unfold encTab kindsOf at *
  by_cases h9 : e = 9
  · simp only [h9, if_true]; exact ⟨43, rfl, ent43, inStream_calls⟩
  by_cases h7 : e = 7
  · simp only [h9, h7, if_true, if_false]; exact ⟨42, rfl, ent42, inPrefixes_calls⟩
  by_cases h6 : e = 6
  · simp only [h9, h7, h6, if_true, if_false]; exact ⟨41, rfl, ent41, inLengths_calls⟩
  by_cases h5 : e = 5
  · simp only [h9, h7, h6, h5, if_true, if_false]; exact ⟨40, rfl, ent40, inDelta_calls⟩
  by_cases h3 : e = 3
  · simp only [h9, h7, h6, h5, h3, if_true, if_false]; exact ⟨39, rfl, ent39, inRuns_calls⟩
  by_cases h8 : e = 8
  · simp only [h9, h7, h6, h5, h3, h8, if_true, if_false]; exact ⟨38, rfl, ent38, inDict_calls⟩
  by_cases h0 : e = 0
  · simp only [h9, h7, h6, h5, h3, h8, h0, if_true, if_false]; exact ⟨37, rfl, ent37, inPlain_calls⟩
  · simp [h9, h7, h6, h5, h3, h8, h0] at h
theorem zero53 (w : World) : (zeroValue 53).run Tryz.prog w = .ok .nilFunc w := by kernel_rfl
theorem kindsOf_len (e : Int) : (kindsOf e).length < 2^50 := by
  unfold kindsOf
  repeat' split
  all_goals simp
set_option maxRecDepth 100000 in
set_option maxHeartbeats 1000000 in
theorem suits_none (e k s : Int) (w : World) (hn : encTab e = none) : Calls Tryz.prog 7 #[.int .i64 e, .agg #[.int .i64 k, .int .i64 s]] w fun r w' => r = .returned (.bool false) ∧ Chg nov w w' := by
  have hlk : ∀ (b : Nat) (w1 : World), MapFn w1 b intV encTab → (Instr.lookup 51 (.map (some b)) (.int .i64 e) true).run Tryz.prog w1 = .ok (.tuple #[.nilFunc, .bool false]) w1 := fun b w1 hm => by
    have := run_lookup_fn key22 Tryz.underlying51 hm (zero53 w1) e true
    rw [hn] at this; exact this
  replace hlk := Lib.hid hlk
  replace hn := Lib.hid hn
  go_enter Tryz.func7, Tryz.ntmps7
  go_wp2_with fail
  refine (encodings_calls _).mono ?_
  rintro r w1 ⟨b, rfl, hm, hc⟩
  have hl := hlk.out b w1 hm
  go_wp2_with fail
  go_quiet (fail)
  go_wp2_with fail
  go_ret
  exact ⟨rfl, (((Chg.refl nov w).alloc _).trans hc).drewN _⟩
set_option maxRecDepth 100000 in
set_option maxHeartbeats 1000000 in
theorem suits_some (e k s : Int) (w : World) (hsome : (encTab e).isSome = true) : Calls Tryz.prog 7 #[.int .i64 e, .agg #[.int .i64 k, .int .i64 s]] w fun r w' => r = .returned (.bool (checkT k s && (kindsOf e).contains k && (e != 9 || decide (s ≤ 64)))) ∧ Chg nov w w' := by
  obtain ⟨g, hg, hent, hx⟩ := encSpec e hsome
  have hlk : ∀ (b : Nat) (w1 : World), MapFn w1 b intV encTab → (Instr.lookup 51 (.map (some b)) (.int .i64 e) true).run Tryz.prog w1 = .ok (.tuple #[.func (.func g) #[] #[], .bool true]) w1 := fun b w1 hm => by
    have := run_lookup_fn key22 Tryz.underlying51 hm (zero53 w1) e true
    rw [hg] at this; exact this
  have hfl := field59
  replace hlk := Lib.hid hlk
  replace hg := Lib.hid hg
  replace hsome := Lib.hid hsome
  replace hx := Lib.hid hx
  obtain ⟨c1, hc1⟩ : ∃ c, checkT k s = c := ⟨_, rfl⟩
  obtain ⟨c2, hc2⟩ : ∃ c, (kindsOf e).contains k = c := ⟨_, rfl⟩
  rw [hc1, hc2]
  have hck : ∀ W, Calls Tryz.prog 20 #[.agg #[.int .i64 k, .int .i64 s]] W fun r w' => r = .returned (.int .i64 (cond c1 0 2)) ∧ Chg nov W w' := fun W => by
    have := check_calls k s W
    rw [hc1] at this
    cases c1 <;> exact this
  have hct := fun W A c hr => contains_calls k (kindsOf e) W A c hr (kindsOf_len e)
  rw [hc2] at hct
  replace hck := Lib.hid hck
  replace hct := Lib.hid hct
  replace hc1 := Lib.hid hc1
  replace hc2 := Lib.hid hc2
  unfold Ent at hent
  go_enter Tryz.func7, Tryz.ntmps7
  go_wp2_with fail
  refine (encodings_calls _).mono ?_
  rintro r w1 ⟨b, rfl, hm, hc⟩
  have hl := hlk.out b w1 hm
  have hw := hc.obj (obj_new w _) id
  have q0 : w1.cell? ⟨w.heap.size, 0, none⟩ = some (.int .i64 k) := cell_of_obj hw 0
  have q1 : w1.cell? ⟨w.heap.size, 1, none⟩ = some (.int .i64 s) := cell_of_obj hw 1
  replace hw := Lib.hid hw
  clear hm
  have r0 : ∀ t : Later nov w1, t.val.cell? ⟨w.heap.size, 0, none⟩ = some (.int .i64 k) := fun t => t.chg.cell q0 id
  have r1 : ∀ t : Later nov w1, t.val.cell? ⟨w.heap.size, 1, none⟩ = some (.int .i64 s) := fun t => t.chg.cell q1 id
  have hc0 : Chg nov w w1 := ((Chg.refl nov w).alloc _).trans hc
  replace hc0 := Lib.hid hc0
  clear hc
  cases c1
  · have hk := hck.out
    simp only [cond] at hk
    replace hk := Lib.hid hk
    go_wp2_with fail
    refine wp_region_ws (F := nov) (cm := calm) [0, 1, 2, 3, 4, 5, 6, 7, 10, 11, 8, 9, 12, 13, 14, 15, 16, 17, 18, 19, 20, 21, 22, 23] (by kernel_rfl) (by kernel_rfl) (fun _ _ d _ _ h => by cases d <;> exact h) ?_
    repeat (first
      | (refine ws_calm rfl rfl (fun K hK => ?_); go_simp; refine hK _ _ ?_; clear hK K)
      | (refine ws_loud rfl rfl (fun K hK => ?_)
         go_simp
         first
           | (refine hK _ _ ?_; clear hK K)
           | (go_at_call 20
              refine (hk.out _).mono ?_
              rintro r w2 ⟨rfl, hd⟩
              replace hd := hd.drewL1
              refine ⟨hd, hK _ _ ?_⟩
              clear hK K)))
    refine ws_nil ?_
    go_wp2_with fail
    go_ret
    exact ⟨rfl, hc0.out.trans hd⟩
  · have hk := hck.out
    simp only [cond] at hk
    replace hk := Lib.hid hk
    obtain ⟨e9, he9⟩ : ∃ b, (e != 9) = b := ⟨_, rfl⟩
    go_wp2_with fail
    cases c2 <;> cases e9
    all_goals
      refine wp_region_ws (F := nov) (cm := calm) [0, 1, 2, 3, 4, 5, 6, 7, 10, 11, 8, 9, 12, 13, 14, 15, 16, 17, 18, 19, 20, 21, 22, 23] (by kernel_rfl) (by kernel_rfl) (fun _ _ d _ _ h => by cases d <;> exact h) ?_
      repeat (first
        | (refine ws_calm rfl rfl (fun K hK => ?_); go_simp; refine hK _ _ ?_; clear hK K)
        | (refine ws_loud rfl rfl (fun K hK => ?_)
           go_simp
           first
             | (refine hK _ _ ?_; clear hK K)
             | (go_at_call 20
                refine (hk.out _).mono ?_
                rintro r w2 ⟨rfl, hd⟩
                replace hd := hd.drewL1
                refine ⟨hd, hK _ _ ?_⟩
                clear hK K)
             | (go_at_call 21
                refine (hct.out _ _ _ hr).mono ?_
                rintro r w4 ⟨rfl, rfl⟩
                refine ⟨hd, hK _ _ ?_⟩
                clear hK K)
             | (refine (hx.out _).mono ?_
                rintro r w3 ⟨A, c, f1, f2, rfl, hle, hA, hr, hd3⟩
                replace hd := hd.trans hd3
                refine ⟨hd, hK _ _ ?_⟩
                clear hK K hd3)))
    all_goals
      refine ws_nil ?_
      go_wp2_with fail
      go_ret
      refine ⟨?_, hc0.out.trans hd⟩
      simp [he9]
end Go.Proofs.YtplbcbalelelaaaGreat
