/- Contracts of pages.encodings, datum.kinds, datum.Check: for every input. -/
import Derived.Test.YtplbcbalelelaaaGreatKit
namespace Go.Proofs.YtplbcbalelelaaaGreat
open Go.RowKit
set_option linter.unusedSimpArgs false
set_option linter.unusedVariables false
def fnV (g : FuncId) : Value := .func (.func g) #[] #[]
def encTab (e : Int) : Option Value :=
  if e = 9 then some (fnV 43) else if e = 7 then some (fnV 42) else if e = 6 then some (fnV 41) else if e = 5 then some (fnV 40) else
  if e = 3 then some (fnV 39) else if e = 8 then some (fnV 38) else if e = 0 then some (fnV 37) else none
theorem key22 : KeyEq Tryz.prog 22 intV := keyEq_int Tryz.underlying22
set_option maxRecDepth 100000 in
set_option maxHeartbeats 1000000 in
theorem encodings_calls (w : World) : Calls Tryz.prog 19 #[] w fun e w' => ∃ b, e = .returned (.map (some b)) ∧ MapFn w' b intV encTab ∧ Chg nov w w' := by
  have hmm := @run_makeMap Tryz.prog
  go_enter Tryz.func19, Tryz.ntmps19
  have h0 := MapFn.new (κ := Int) w intV
  have c0 : Chg nov w (w.alloc (.map #[] 0)) := (Chg.refl _ _).alloc _
  go_wp2_with (refine wpList_put rfl 51 _ _ _ (.inl rfl) key22 Tryz.underlying51 _ _ (by assumption) rfl _ rfl ?_; clear h0; intro w1 h0 c1; replace c0 := c0.step c1 (fun k hk e => absurd e (Nat.ne_of_lt hk)); clear c1)
  go_ret
  exact ⟨_, rfl, h0, c0⟩

def bnV (a b : Int) : Value := .agg #[.int .i64 a, .int .i64 b]
def kTab (k : Int) : Option Value :=
  if k = 7 then some (bnV 0 0) else if k = 6 then some (bnV 0 0) else if k = 5 then some (bnV (-9223372036854775808) 9223372036854775807) else
  if k = 4 then some (bnV 0 4294967295) else if k = 2 then some (bnV (-9223372036854775808) 9223372036854775807) else
  if k = 1 then some (bnV (-2147483648) 2147483647) else if k = 0 then some (bnV 0 1) else none
theorem key23 : KeyEq Tryz.prog 23 intV := keyEq_int Tryz.underlying23
set_option maxRecDepth 100000 in
set_option maxHeartbeats 1000000 in
theorem kinds_calls (w : World) : Calls Tryz.prog 44 #[] w fun e w' => ∃ b, e = .returned (.map (some b)) ∧ MapFn w' b intV kTab ∧ Chg nov w w' := by
  have hmm := @run_makeMap Tryz.prog
  go_enter Tryz.func44, Tryz.ntmps44
  have h0 := MapFn.new (κ := Int) w intV
  have c0 : Chg nov w (w.alloc (.map #[] 0)) := (Chg.refl _ _).alloc _
  go_wp2_with (refine wpList_put rfl 86 _ _ _ (.inl rfl) key23 Tryz.underlying86 _ _ (by assumption) rfl _ rfl ?_; clear h0; intro w1 h0 c1; replace c0 := c0.step c1 (fun k hk e => absurd e (Nat.ne_of_lt hk)); clear c1)
  go_ret
  exact ⟨_, rfl, h0, c0⟩
def checkT (k s : Int) : Bool := ((k == 0 || k == 1 || k == 2 || k == 4 || k == 5 || k == 6) && s == 0) || (k == 7 && decide (1 ≤ s) && decide (s ≤ 1048576))
theorem zero84 (w : World) : (zeroValue 84).run Tryz.prog w = .ok (bnV 0 0) w := by kernel_rfl
theorem kTab_shape (k : Int) : ∃ a b, (kTab k).getD (bnV 0 0) = .agg #[.int .i64 a, .int .i64 b] := by
  unfold kTab
  repeat' split
  all_goals exact ⟨_, _, rfl⟩
theorem kTab_some (k : Int) : (kTab k).isSome = (k == 0 || k == 1 || k == 2 || k == 4 || k == 5 || k == 6 || k == 7) := by
  unfold kTab
  by_cases h7 : k = 7; · simp [h7]
  by_cases h6 : k = 6; · simp [h6]
  by_cases h5 : k = 5; · simp [h5]
  by_cases h4 : k = 4; · simp [h4]
  by_cases h2 : k = 2; · simp [h2]
  by_cases h1 : k = 1; · simp [h1]
  by_cases h0 : k = 0; · simp [h0]
  simp [h7, h6, h5, h4, h2, h1, h0]
theorem chk_fin (k s : Int) (ok : Bool) (h : (k == 0 || k == 1 || k == 2 || k == 4 || k == 5 || k == 6 || k == 7) = ok) :
    (if checkT k s then (0 : Int) else 2) = if !ok || !(k == 7 && decide (1 ≤ s) && decide (s ≤ 1048576)) && (k == 7 || s != 0) then 2 else 0 := by
  subst h
  unfold checkT
  by_cases h7 : k = 7
  · subst h7
    by_cases h1 : 1 ≤ s <;> by_cases h2 : s ≤ 1048576 <;> simp [h1, h2]
  · by_cases h0 : s = 0
    · subst h0; simp [h7]
      by_cases hk : k = 0 ∨ k = 1 ∨ k = 2 ∨ k = 4 ∨ k = 5 ∨ k = 6
      · have : (((((k = 0 ∨ k = 1) ∨ k = 2) ∨ k = 4) ∨ k = 5) ∨ k = 6) := by omega
        simp [this]; omega
      · have : ¬ (((((k = 0 ∨ k = 1) ∨ k = 2) ∨ k = 4) ∨ k = 5) ∨ k = 6) := by omega
        simp [this]; omega
    · simp [h7, h0]
set_option maxRecDepth 100000 in
set_option maxHeartbeats 1000000 in
theorem check_calls (k s : Int) (w : World) : Calls Tryz.prog 20 #[.agg #[.int .i64 k, .int .i64 s]] w fun e w' => e = .returned (.int .i64 (if checkT k s then 0 else 2)) ∧ Chg nov w w' := by
  obtain ⟨r, hr⟩ : ∃ r : Int, (if checkT k s then 0 else 2) = r := ⟨_, rfl⟩
  rw [hr]
  replace hr := Lib.hid hr
  obtain ⟨za, zb, hz⟩ := kTab_shape k
  obtain ⟨ok, hok⟩ : ∃ ok, (kTab k).isSome = ok := ⟨_, rfl⟩
  have hlk : ∀ (b : Nat) (w1 : World), MapFn w1 b intV kTab → (Instr.lookup 86 (.map (some b)) (.int .i64 k) true).run Tryz.prog w1 = .ok (.tuple #[.agg #[.int .i64 za, .int .i64 zb], .bool ok]) w1 := fun b w1 hm => by
    have := run_lookup_fn key23 Tryz.underlying86 hm (zero84 w1) k true
    rw [hz, hok] at this; exact this
  rw [kTab_some] at hok
  replace hlk := Lib.hid hlk
  replace hok := Lib.hid hok
  clear hz
  have a0 : ((w.alloc (.cells #[.int .i64 k, .int .i64 s] 25)).alloc (.cells #[.int .i64 0, .int .i64 0] 84)).cell? ⟨w.heap.size + 1, 0, none⟩ = some (.int .i64 0) := by simp [go_sem]
  have a1 : ((w.alloc (.cells #[.int .i64 k, .int .i64 s] 25)).alloc (.cells #[.int .i64 0, .int .i64 0] 84)).cell? ⟨w.heap.size + 1, 1, none⟩ = some (.int .i64 0) := by simp [go_sem]
  have f0 : ((w.alloc (.cells #[.int .i64 k, .int .i64 s] 25)).alloc (.cells #[.int .i64 0, .int .i64 0] 84)).frozen? ⟨w.heap.size + 1, 0, none⟩ = false := by simp [go_sem]
  have f1 : ((w.alloc (.cells #[.int .i64 k, .int .i64 s] 25)).alloc (.cells #[.int .i64 0, .int .i64 0] 84)).frozen? ⟨w.heap.size + 1, 1, none⟩ = false := by simp [go_sem]
  go_enter Tryz.func20, Tryz.ntmps20
  go_wp2_with fail
  go_region_held3 (fun w' => w'.cell? ⟨w.heap.size, 0, none⟩ = some (.int .i64 k) ∧ w'.cell? ⟨w.heap.size, 1, none⟩ = some (.int .i64 s))
    (first | go_keep | (exact ⟨g0, g1⟩))
    (first | (go_at_call 44
              refine (kinds_calls _).mono ?_
              rintro e w1 ⟨b, rfl, hm, hc⟩
              have hl := hlk.out b w1 hm
              have hl2 : ∀ o, (Instr.lookup 86 (.map (some b)) (.int .i64 k) true).run Tryz.prog (w1.alloc o) = .ok (.tuple #[.agg #[.int .i64 za, .int .i64 zb], .bool ok]) (w1.alloc o) := fun o => hlk.out b _ (hm.chg ((Chg.refl nov _).alloc o) id)
              have g0 : w1.cell? ⟨w.heap.size, 0, none⟩ = some (.int .i64 k) := hc.cell (by go_simp) id
              have g1 : w1.cell? ⟨w.heap.size, 1, none⟩ = some (.int .i64 s) := hc.cell (by go_simp) id
              have gn := World.new_ne w1 _ g0
              first
                | have gc := ((Chg.refl nov w).alloc (.cells #[.int .i64 k, .int .i64 s] 25)).trans hc.drewL1
                | (have gc := (((Chg.refl nov w).alloc (.cells #[.int .i64 k, .int .i64 s] 25)).alloc (.cells #[.int .i64 0, .int .i64 0] 84)).trans hc.drewL1
                   have g2 := hc.cell a0 id
                   have g3 := hc.cell a1 id
                   have g4 := hc.froz a0 f0 id
                   have g5 := hc.froz a1 f1 id)))
  all_goals go_wp2_with fail
  all_goals
    go_ret
    have hr' := hr.out
    rw [chk_fin k s ok hok.out] at hr'
    refine ⟨congrArg Ending.returned (congrArg (Value.int IntKind.i64) ?_), ?_⟩
    · subst hr'
      clear hl hl2 a0 a1 f0 f1 g0 g1 gc hc hm hok hr hlk
      first | (simp [*]; done) | (simp_all; done) | (simp_all; omega)
    · first
        | exact gc.alloc _
        | exact (gc.setCell (p := ⟨w.heap.size + 1, 0, none⟩) (.inr (Nat.le_succ _)) _).setCell (p := ⟨w.heap.size + 1, 1, none⟩) (.inr (Nat.le_succ _)) _
end Go.Proofs.YtplbcbalelelaaaGreat
