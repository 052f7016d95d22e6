/-
  BackendPins: whatever the page's number and the choice are, the law returns true; the input reads as it did.
  The conditions are the card's own: the table palisade/word.widths holds what the program's text lays.
-/
import Derived.Test.YtjilfolpkkhfmaaDoorCards
import Derived.Test.YtjilfolpkkhfmaaDoorTie
import Derived.Test.YtjilfolpkkhfmaaDoorPins2a
import Derived.Test.YtjilfolpkkhfmaaDoorPins2b
import Derived.Test.YtjilfolpkkhfmaaDoorPins2c
import Derived.Test.YtjilfolpkkhfmaaDoorPins2d
import Derived.Test.YtjilfolpkkhfmaaDoorPins2e
import Derived.Test.YtjilfolpkkhfmaaDoorPins2f
import Derived.Test.YtjilfolpkkhfmaaDoorPins2g
import Derived.Test.YtjilfolpkkhfmaaDoorPins2h
import Derived.WalkKit
import Derived.ProofKit
import Derived.OpenShut
import Derived.Deep.DeepHandedRow
import Derived.Lib.LaidTab
namespace Go.Proofs.YtjilfolpkkhfmaaDoor.Pins
open Go.ChangeShapes Go.WideShapes Go.ChangeAt Go.RowKit Go.AM Tab

theorem E_mem (p : Int) : E p = 6 ∨ E p = 7 ∨ E p = 8 ∨ E p = 9 ∨ E p = 10 ∨ E p = 11 ∨ E p = 12 ∨ E p = 13 := by
  have key : ∀ v : Nat, v < 8 → IntKind.wrap .i64 (6 + IntKind.wrap .i64 (v : Int)) = 6 + (v : Int) := by decide
  have hlt : (BitVec.ofInt (IntKind.bits .i64) p &&& BitVec.ofInt (IntKind.bits .i64) 7).toNat < 8 := by
    rw [BitVec.toNat_and]
    exact Nat.lt_of_le_of_lt Nat.and_le_right (by decide)
  unfold E
  rw [key _ hlt]
  omega

theorem rest (z : Int) (d : Bool) (hz : z = 6 ∨ z = 7 ∨ z = 8 ∨ z = 9 ∨ z = 10 ∨ z = 11 ∨ z = 12 ∨ z = 13) :
    finX F c4.results (execX F (callX Tab.A noSum 99999) 99999 (sfxN 4 c4.code) (T1 z d) s1) = true := by
  rcases hz with rfl | rfl | rfl | rfl | rfl | rfl | rfl | rfl <;> cases d
  · exact rest0f
  · exact rest0t
  · exact rest1f
  · exact rest1t
  · exact rest2f
  · exact rest2t
  · exact rest3f
  · exact rest3t
  · exact rest4f
  · exact rest4t
  · exact rest5f
  · exact rest5t
  · exact rest6f
  · exact rest6t
  · exact rest7f
  · exact rest7t

/-- THE RUN, for every argument. -/
theorem run (page : Int) (d : Bool) : ∃ σ', callA (plainA Tab.A) noSum 100000 4 [.int .i64 page, .bool d] s0 = some (.bool true, σ') :=
  callA_of_cut (A := Tab.A) (S := noSum) (n := 99999) (f := 4) (x := ⟨F, c4⟩) (by kernel_rfl) 4 (first page d) (rest _ d (E_mem page))

theorem own : ownKnob Tryd.prog.godebug = none := by kernel_rfl
theorem gTab : Tryd.prog.globalNamed "palisade/word.widths" = some 0 := by kernel_rfl
theorem gTabType : (Tryd.prog.globals[0]?).map (·.type) = some 145 := by kernel_rfl
theorem cells145 : Tryd.prog.cellsOf 145 = 4 := by kernel_rfl
theorem cells3 : Tryd.prog.cellsOf 3 = 1 := by kernel_rfl
theorem table {W : World} (h : laidMetH Tryd.prog Rows.backendPinsRow.laid W) : Lib.TabIs Tryd.prog W "palisade/word.widths" .i64 [1, 0, 4, 8] :=
  Lib.tabIs_of_head (rest := []) gTab gTabType Tryd.underlying145 Tryd.underlying3 cells3 cells145 h

theorem walk (W : World) (hL : laidMetH Tryd.prog Rows.backendPinsRow.laid W) (page : Int) (d : Bool) :
    Calls Tryd.prog 4 #[.int .i64 page, .bool d] W fun e W' => e = .returned (.bool true) ∧ W'.os = W.os ∧ W'.output = W.output ∧ ∀ k, k < W.heap.size → W'.heap[k]? = W.heap[k]? := by
  obtain ⟨σ', hr⟩ := run page d
  refine (calls1 (callA_sound ctx aok (noSum_ok _) 100000) (table hL) gTab (by kernel_rfl) (args := [.int .i64 page, .bool d]) (fun ρ => ⟨rfl, fun i hi => ?_⟩) hr).mono ?_
  · match i, hi with
    | 0, _ => exact .int _ _
    | 1, _ => exact .bool _
  · rintro e W' ⟨cv, ρ, rfl, hv, h1, h2, h3⟩
    cases hv
    exact ⟨rfl, h1, h2, h3⟩

set_option maxRecDepth 100000 in
theorem contract (H : Type) (enc : TypeId × Value → H) (W : World) (base : Nat) (args : Array Value) (ds gs : List (DataW H)) (before : List MemPlace)
    (hval : ∀ (j : Nat) t v, Tryd.f4.params[j]? = some t → args[j]? = some v → Value.okWide Tryd.prog W .any base t v)
    (hW : DataW.Whole enc Tryd.prog Tryd.f4.params.toList Rows.backendPinsSpec.vars false W args.toList ds gs before) (hL : laidMetH Tryd.prog Rows.backendPinsRow.laid W) :
    Calls Tryd.prog 4 args W fun e W' => ∃ v, e = .returned v ∧ Rows.backendPinsSpec.post enc Tryd.prog Tryd.f4 false true false false W args v W' := by
  have hW' := hW
  obtain ⟨p, q, hA0, hV, rfl, hfz, hnd⟩ := hW
  have hA : DataW.TrodAll enc Tryd.prog W 0 (fun _ => true) true Tryd.f4.params.toList args.toList ds p := hA0
  rw [Tryd.params4] at hA hval
  obtain ⟨v0, vs0, d0, ds0, p0, q0, hargs, rfl, rfl, h0, r0⟩ := trodAll_cons hA
  obtain ⟨v1, vs1, d1, ds1, p1, q1, rfl, rfl, rfl, h1, r1⟩ := trodAll_cons r0
  obtain ⟨rfl, rfl, rfl⟩ := trodAll_nil r1
  obtain rfl : args = #[v0, v1] := by cases args; simp_all
  obtain ⟨rfl, rfl⟩ := trodVars_none hV
  obtain ⟨page, rfl, rfl, rfl, w0⟩ := open_int Tryd.underlying3 (hval 0 3 v0 rfl rfl) h0
  obtain ⟨d, rfl, rfl, rfl⟩ := open_bool Tryd.underlying4 (hval 1 4 v1 rfl rfl) h1
  clear hA0
  simp only [List.append_nil] at hW'
  refine (walk W hL page d).mono fun e W' ⟨he, hos, hout, hold⟩ => ?_
  subst he
  exact ⟨_, rfl, post_of_old (pa := []) (pv := []) hW' (fun _ _ _ => trodAll_cons_mk (shut_bool Tryd.underlying4 _) trodAll_mk0)
    (fun _ _ => trodAll_cons_mk (shut_int Tryd.underlying3 w0) (trodAll_cons_mk (shut_bool Tryd.underlying4 _) trodAll_mk0)) (fun _ _ => rfl) rfl
    hos hout hold (ok_one (by kernel_rfl) rfl (okWide_bool_mk Tryd.underlying4 _))⟩

/-- A world for the witness. -/
noncomputable def laidWorld (os : Os) : World :=
  { World.holding Tryd.prog os ⟨#[], #[], []⟩ with heap := (World.holding Tryd.prog os ⟨#[], #[], []⟩).heap.modify 0 fun
      | .cells _ t frozen => .cells #[.int .i64 1, .int .i64 0, .int .i64 4, .int .i64 8] t frozen
      | o => o }
theorem laid_met (os : Os) : laidMet Tryd.prog Rows.backendPinsRow.laid ((laidWorld os).forCall (fun _ _ => 0) ⟨#[], #[.int .i64 0, .bool false], []⟩).memory :=
  laidMet_of_run' 8 (by kernel_rfl) (by kernel_rfl)
theorem reads (os : Os) {H : Type} (enc : TypeId × Value → H) : ∃ places, DataW.whole enc Tryd.prog ((laidWorld os).forCall (fun _ _ => 0) ⟨#[], #[.int .i64 0, .bool false], []⟩).memory Tryd.f4.params.toList Rows.backendPinsSpec.vars false #[Value.int .i64 0, Value.bool false].toList 8 = some ([.lit (.int .i64 0), .lit (.bool false)], [], places) :=
  ⟨[], by kernel_rfl⟩

set_option maxRecDepth 100000 in
theorem lifted (os : Os) (started : os.Started) (H : Type) (enc : TypeId × Value → H) (F : Stop.Interp) :
    ReturnsInHanded {} Tryd.checked os 4 .any ((OpenSpec.ofChange Rows.backendPinsSpec).preRow enc Tryd.prog Tryd.f4 Rows.backendPinsRow.domain false Rows.backendPinsRow.laid) (((OpenSpec.ofChange Rows.backendPinsSpec).at F).post enc Tryd.prog Tryd.f4 false true false false) := by
  obtain ⟨places, hx⟩ := reads os enc
  refine returnsInHanded_of_row (C := Tryd.checked) (s := OpenSpec.ofChange Rows.backendPinsSpec) own started (by kernel_rfl) Tryd.func4
    (witness_row_at (enc := enc) (C := Tryd.checked) false (laidWorld os) #[.int .i64 0, .bool false] rfl (by kernel_rfl) (by kernel_rfl) (by kernel_rfl)
      (OpenSpec.preRow_of_cond 8 hx (by kernel_rfl) (fun k hk => by cases hk) (by kernel_rfl) (laid_met os))) ?_
  intro W base args ds gs before hval hW _ _ _ hL _ _
  exact contract H enc W base args ds gs before hval hW hL

theorem said : Rows.BackendPinsSaid :=
  OpenClaim.holds_of_cond 4 Tryd.f4 rfl rfl rfl rfl rfl rfl rfl ⟨rfl, rfl, rfl, rfl, rfl⟩ rfl rfl rfl rfl rfl (by kernel_rfl) Tryd.func4 (by kernel_rfl)
    (of_decide_eq_true (by kernel_rfl)) (by unfold Func.isWrapper; first | (rw [if_pos (by decide +kernel)]; kernel_rfl) | (rw [if_neg (by decide +kernel)]; exact ⟨rfl, rfl⟩))
    (fun os started H enc _ F => by rw [OpenClaim.pre_eq_preRow]; exact lifted os started H enc F)

theorem plain (f : FuncId) (fn : Func) (hf : Tryd.pinned.checked.prog.funcNamed "palisade/palisadelaw24.BackendPins" = some f) (hfn : Tryd.pinned.checked.prog.funcs[f]? = some fn) :
    false = Tryd.pinned.checked.prog.looks [] ∧ ∀ (j : Nat) t, fn.params[j]? = some t → Tryd.pinned.checked.prog.wantsStandIn t = false := by
  obtain rfl : f = 4 := Option.some.inj ((show Tryd.prog.funcNamed "palisade/palisadelaw24.BackendPins" = some 4 by kernel_rfl).symm.trans hf) |>.symm
  obtain rfl : fn = Tryd.f4 := (Option.some.inj (Tryd.func4.symm.trans hfn)).symm
  refine ⟨by kernel_rfl, fun j t ht => ?_⟩
  rw [Tryd.params4] at ht
  have hm : t = 3 ∨ t = 4 := by simpa using Array.mem_of_getElem? ht
  rcases hm with rfl | rfl
  · exact (show Tryd.prog.wantsStandIn 3 = false by kernel_rfl)
  · exact (show Tryd.prog.wantsStandIn 4 = false by kernel_rfl)

/-- THE CARD. -/
theorem card : Rows.BackendPinsCardSaid :=
  Claim7.holds_tied_plain_at .later [] _ _ _ _ said (fun _ h => by cases h) (by kernel_rfl) (fun _ h => by cases h) backendPins_row_tie rfl ⟨rfl, rfl⟩ (by kernel_rfl) rfl plain (by kernel_rfl)
end Go.Proofs.YtjilfolpkkhfmaaDoor.Pins
