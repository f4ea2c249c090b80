/- Contracts of the encodings of pages: for every input. -/
import Derived.Test.YtplbcbalelelaaaGreatSa
import Derived.Laws.EntriesVeiled
namespace Go.Proofs.YtplbcbalelelaaaGreat
open Go.RowKit
set_option linter.unusedSimpArgs false
set_option linter.unusedVariables false
def EncIs (l : List Int) (w : World) (e : Ending) (w' : World) : Prop :=
  ∃ A c f g, e = .returned (.agg #[.slice A l.length c, .func (.func f) #[] #[], .func (.func g) #[] #[]]) ∧ l.length ≤ c ∧ (∀ ad, A = some ad → w.heap.size ≤ ad.block) ∧ Rd intV w' A l ∧ Chg nov w w'
set_option maxRecDepth 100000 in
set_option maxHeartbeats 1000000 in
theorem inPlain_calls (w : World) : Calls Tryz.prog 37 #[] w (EncIs [0, 1, 2, 4, 5, 6, 7] w) := by
  go_enter Tryz.func37, Tryz.ntmps37
  go_wp2_with fail
  refine bodyPost_ret (v := .agg #[.slice (some ⟨w.heap.size + 1, 0, none⟩) 7 7, .func (.func 55) #[] #[], .func (.func 57) #[] #[]]) (by simp [results, Tryz.results37, go_sem]) rfl ⟨_, _, _, _, rfl, Nat.le_refl _, fun ad h => by cases h; exact Nat.le_succ _, ?_, ?_⟩
  · refine Rd.of_block (g := w.heap.size + 1) (cs := #[.int .i64 0, .int .i64 1, .int .i64 2, .int .i64 4, .int .i64 5, .int .i64 6, .int .i64 7]) (t := 23) (fz := (0, 0)) (obj_new2 (by simp) _) ?_
    intro j x hx
    match j, hx with
    | 0, hx => simpa [intV] using hx
    | 1, hx => simpa [intV] using hx
    | 2, hx => simpa [intV] using hx
    | 3, hx => simpa [intV] using hx
    | 4, hx => simpa [intV] using hx
    | 5, hx => simpa [intV] using hx
    | 6, hx => simpa [intV] using hx
  · exact ((Chg.refl _ _).alloc _).alloc _
set_option maxRecDepth 100000 in
set_option maxHeartbeats 1000000 in
theorem inRuns_calls (w : World) : Calls Tryz.prog 39 #[] w (EncIs [0] w) := by
  go_enter Tryz.func39, Tryz.ntmps39
  go_wp2_with fail
  refine bodyPost_ret (v := .agg #[.slice (some ⟨w.heap.size + 1, 0, none⟩) 1 1, .func (.func 64) #[] #[], .func (.func 67) #[] #[]]) (by simp [results, Tryz.results39, go_sem]) rfl ⟨_, _, _, _, rfl, Nat.le_refl _, fun ad h => by cases h; exact Nat.le_succ _, ?_, ?_⟩
  · refine Rd.of_block (g := w.heap.size + 1) (cs := #[.int .i64 0]) (t := 23) (fz := (0, 0)) (obj_new2 (by simp) _) ?_
    intro j x hx
    match j, hx with
    | 0, hx => simpa [intV] using hx
  · exact ((Chg.refl _ _).alloc _).alloc _
set_option maxRecDepth 100000 in
set_option maxHeartbeats 1000000 in
theorem inDelta_calls (w : World) : Calls Tryz.prog 40 #[] w (EncIs [1, 2] w) := by
  go_enter Tryz.func40, Tryz.ntmps40
  go_wp2_with fail
  refine bodyPost_ret (v := .agg #[.slice (some ⟨w.heap.size + 1, 0, none⟩) 2 2, .func (.func 69) #[] #[], .func (.func 71) #[] #[]]) (by simp [results, Tryz.results40, go_sem]) rfl ⟨_, _, _, _, rfl, Nat.le_refl _, fun ad h => by cases h; exact Nat.le_succ _, ?_, ?_⟩
  · refine Rd.of_block (g := w.heap.size + 1) (cs := #[.int .i64 1, .int .i64 2]) (t := 23) (fz := (0, 0)) (obj_new2 (by simp) _) ?_
    intro j x hx
    match j, hx with
    | 0, hx => simpa [intV] using hx
    | 1, hx => simpa [intV] using hx
  · exact ((Chg.refl _ _).alloc _).alloc _
set_option maxRecDepth 100000 in
set_option maxHeartbeats 1000000 in
theorem inLengths_calls (w : World) : Calls Tryz.prog 41 #[] w (EncIs [6] w) := by
  go_enter Tryz.func41, Tryz.ntmps41
  go_wp2_with fail
  refine bodyPost_ret (v := .agg #[.slice (some ⟨w.heap.size + 1, 0, none⟩) 1 1, .func (.func 74) #[] #[], .func (.func 77) #[] #[]]) (by simp [results, Tryz.results41, go_sem]) rfl ⟨_, _, _, _, rfl, Nat.le_refl _, fun ad h => by cases h; exact Nat.le_succ _, ?_, ?_⟩
  · refine Rd.of_block (g := w.heap.size + 1) (cs := #[.int .i64 6]) (t := 23) (fz := (0, 0)) (obj_new2 (by simp) _) ?_
    intro j x hx
    match j, hx with
    | 0, hx => simpa [intV] using hx
  · exact ((Chg.refl _ _).alloc _).alloc _
set_option maxRecDepth 100000 in
set_option maxHeartbeats 1000000 in
theorem inPrefixes_calls (w : World) : Calls Tryz.prog 42 #[] w (EncIs [6, 7] w) := by
  go_enter Tryz.func42, Tryz.ntmps42
  go_wp2_with fail
  refine bodyPost_ret (v := .agg #[.slice (some ⟨w.heap.size + 1, 0, none⟩) 2 2, .func (.func 80) #[] #[], .func (.func 82) #[] #[]]) (by simp [results, Tryz.results42, go_sem]) rfl ⟨_, _, _, _, rfl, Nat.le_refl _, fun ad h => by cases h; exact Nat.le_succ _, ?_, ?_⟩
  · refine Rd.of_block (g := w.heap.size + 1) (cs := #[.int .i64 6, .int .i64 7]) (t := 23) (fz := (0, 0)) (obj_new2 (by simp) _) ?_
    intro j x hx
    match j, hx with
    | 0, hx => simpa [intV] using hx
    | 1, hx => simpa [intV] using hx
  · exact ((Chg.refl _ _).alloc _).alloc _
set_option maxRecDepth 100000 in
set_option maxHeartbeats 1000000 in
theorem inStream_calls (w : World) : Calls Tryz.prog 43 #[] w (EncIs [1, 2, 4, 5, 7] w) := by
  go_enter Tryz.func43, Tryz.ntmps43
  go_wp2_with fail
  refine bodyPost_ret (v := .agg #[.slice (some ⟨w.heap.size + 1, 0, none⟩) 5 5, .func (.func 84) #[] #[], .func (.func 87) #[] #[]]) (by simp [results, Tryz.results43, go_sem]) rfl ⟨_, _, _, _, rfl, Nat.le_refl _, fun ad h => by cases h; exact Nat.le_succ _, ?_, ?_⟩
  · refine Rd.of_block (g := w.heap.size + 1) (cs := #[.int .i64 1, .int .i64 2, .int .i64 4, .int .i64 5, .int .i64 7]) (t := 23) (fz := (0, 0)) (obj_new2 (by simp) _) ?_
    intro j x hx
    match j, hx with
    | 0, hx => simpa [intV] using hx
    | 1, hx => simpa [intV] using hx
    | 2, hx => simpa [intV] using hx
    | 3, hx => simpa [intV] using hx
    | 4, hx => simpa [intV] using hx
  · exact ((Chg.refl _ _).alloc _).alloc _
end Go.Proofs.YtplbcbalelelaaaGreat
