/- A region that draws its order, walked in one order: loads of cells that nobody in the region turns may be taken at any time; what turns memory waits for what else does. No condition. -/
import Derived.Test.YtplbcbalelelaaaGreatKit
import Derived.OrdersHeld
namespace Go.Proofs.YtplbcbalelelaaaGreat
open Go.RowKit
set_option linter.unusedSimpArgs false
set_option linter.unusedVariables false
/-- A world that comes of W by turning what F lets be turned. -/
structure Later (F : Nat → Prop) (W : World) where
  val : World
  chg : Chg F W val
instance (F : Nat → Prop) (W : World) : Nonempty (Later F W) := ⟨⟨W, Chg.refl F W⟩⟩
/-- Operations that make a value and turn nothing. -/
def calm (o : Oper) : Bool :=
  match o.op with
  | .move _ | .assign _ | .pick .. | .load .. | .binOp .. | .unOp .. | .fieldAddr .. | .field .. | .indexAddr .. | .index .. | .lookup .. | .convert .. | .slice .. | .extract .. | .makeInterface .. | .makeFunc .. | .build .. | .nilCheck _ => true
  | .call { callee := .builtin .len, .. } | .call { callee := .builtin .cap, .. } | .call { callee := .builtin .min, .. } | .call { callee := .builtin .max, .. } => true
  | _ => false
/-- The same, but conversions are not: they may make memory. -/
def calmC (o : Oper) : Bool := calm o && match o.op with | .convert .. => false | _ => true
def schedB (cm : Oper → Bool) (ops : Array Oper) : List Nat → Array Bool → Bool
  | [], listed => (Region.ready .any ops listed).isEmpty
  | i :: rest, listed => (match ops[i]? with
      | none => false
      | some o => if cm o then Region.free .any ops listed i && (Region.ready .any ops listed).contains i else Region.ready .any ops listed == [i]) && schedB cm ops rest (listed.setIfInBounds i true)
section
variable {P : Program} {ops : Array Oper} {Q : Exit → Act → World → Prop} {F : Nat → Prop} {W : World} {cm : Oper → Bool}
def WS (P : Program) (ops : Array Oper) (Q : Exit → Act → World → Prop) (F : Nat → Prop) (W : World) (cm : Oper → Bool) : List Nat → Act → World → Prop
  | [], a, w => Q .normal a w
  | i :: rest, a, w => ∃ o, ops[i]? = some o ∧ (if Region.wanted o (yielded ops a.tmps) then
      (if cm o then ∃ v, (∀ t : Later F W, (execOp a.eval o).run P t.val = .ok (.value v) t.val) ∧ WS P ops Q F W cm rest (a.put o.dst v) w
       else o.wp P a w (fun a' w' => Chg F W w' ∧ WS P ops Q F W cm rest a' w') Q)
    else WS P ops Q F W cm rest (a.put o.dst undef) w)
theorem ws_sound (hs : Region.noSelect ops = true) (hQ : ∀ c a d v w, Q (.panic c) (Act.put a d v) w → Q (.panic c) a w) : ∀ (l : List Nat) (listed : Array Bool) (a : Act) (w : World),
    schedB cm ops l listed = true → Chg F W w → WS P ops Q F W cm l a w → wpAnyH P .any ops Q (fun w' => ∃ t : Later F W, w' = t.val) l.length listed a w
  | [], listed, a, w, hB, hc, h => wpAnyH_done (by simpa [schedB] using hB) h _
  | i :: rest, listed, a, w, hB, hc, h => by
    obtain ⟨o, ho, h⟩ := h
    simp only [schedB, ho, Bool.and_eq_true] at hB
    obtain ⟨hB1, hB2⟩ := hB
    by_cases hcm : cm o = true
    · simp only [hcm, if_true, Bool.and_eq_true] at hB1 h
      by_cases hw : Region.wanted o (yielded ops a.tmps) = true
      · simp only [hw, if_true] at h
        obtain ⟨v, hv, hn⟩ := h
        refine wpAnyH_take ho hs hB1.1 hB1.2 (fun c a' w' => hQ c a' _ v w') (v := v) (.inl ⟨hw, ?_⟩) ⟨⟨w, hc⟩, rfl⟩ (ws_sound hs hQ rest _ _ _ hB2 hc hn)
        rintro w' ⟨t, rfl⟩
        exact hv t
      · have hw' : Region.wanted o (yielded ops a.tmps) = false := by simpa using hw
        simp only [hw', Bool.false_eq_true, if_false] at h
        exact wpAnyH_take ho hs hB1.1 hB1.2 (fun c a' w' => hQ c a' _ undef w') (v := undef) (.inr ⟨hw', rfl⟩) ⟨⟨w, hc⟩, rfl⟩ (ws_sound hs hQ rest _ _ _ hB2 hc h)
    · have hcm' : cm o = false := by simpa using hcm
      simp only [hcm', Bool.false_eq_true, if_false] at hB1 h
      refine wpAnyH_all (rs := [i]) (by simpa using hB1) (by simp) ?_
      intro j hj
      obtain rfl : j = i := by simpa using hj
      unfold wpOp
      simp only [ho]
      split
      · rename_i hw
        simp only [hw, if_true] at h
        exact .inl (Oper.wp_mono (fun a' w' hk => ⟨⟨⟨w', hk.1⟩, rfl⟩, ws_sound hs hQ rest _ _ _ hB2 hk.1 hk.2⟩) h)
      · rename_i hw
        simp only [hw, Bool.false_eq_true, if_false] at h
        exact ⟨⟨⟨w, hc⟩, rfl⟩, ws_sound hs hQ rest _ _ _ hB2 hc h⟩
/-- **One order serves all.** W: the world as the region begins (the draw does not count). -/
theorem wp_region_ws {id : Nat} {a : Act} {w : World} (l : List Nat) (hm : P.follows .mixedOrders = true)
    (hB : (Region.noSelect ops && l.length == ops.size && schedB cm ops l (Array.replicate ops.size false)) = true)
    (hQ : ∀ c a d v w, Q (.panic c) (Act.put a d v) w → Q (.panic c) a w) (h : WS P ops Q F w cm l a w.drew) : (Code.region id ops true).wp P Q a w := by
  simp only [Bool.and_eq_true] at hB
  obtain ⟨⟨h1, h2⟩, h3⟩ := hB
  have h2' : l.length = ops.size := by simpa using h2
  refine wp_region_held hm (S := fun w' => ∃ t : Later F w, w' = t.val) ?_
  rw [← h2']
  exact ws_sound h1 hQ l _ a _ (by rw [h2']; exact h3) ((Chg.refl F w).drew) h
theorem ws_nil {a : Act} {w : World} (h : Q .normal a w) : WS P ops Q F W cm [] a w := h
/-- A calm operation. -/
theorem ws_calm {i : Nat} {rest : List Nat} {o : Oper} {a : Act} {w : World} (ho : ops[i]? = some o) (hc : cm o = true)
    (h : ∀ K : Act → World → Prop, (∀ a w, WS P ops Q F W cm rest a w → K a w) → if Region.wanted o (yielded ops a.tmps) then ∃ v, (∀ t : Later F W, (execOp a.eval o).run P t.val = .ok (.value v) t.val) ∧ K (a.put o.dst v) w else K (a.put o.dst undef) w) :
    WS P ops Q F W cm (i :: rest) a w := by
  refine ⟨o, ho, ?_⟩
  have := h _ (fun _ _ h => h)
  simpa only [hc, if_true] using this
/-- An operation that may turn memory: what it leaves must be of the class. -/
theorem ws_loud {i : Nat} {rest : List Nat} {o : Oper} {a : Act} {w : World} (ho : ops[i]? = some o) (hc : cm o = false)
    (h : ∀ K : Act → World → Prop, (∀ a w, WS P ops Q F W cm rest a w → K a w) → if Region.wanted o (yielded ops a.tmps) then o.wp P a w (fun a' w' => Chg F W w' ∧ K a' w') Q else K (a.put o.dst undef) w) :
    WS P ops Q F W cm (i :: rest) a w := by
  refine ⟨o, ho, ?_⟩
  have := h _ (fun _ _ h => h)
  simpa only [hc, Bool.false_eq_true, if_false] using this
end
end Go.Proofs.YtplbcbalelelaaaGreat
