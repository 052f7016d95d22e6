/-
  BackendFull: whatever the two numbers are, the law returns true; the input reads as it did.
  The conditions are the card's own: the table palisade/word.widths holds what the program's text lays.
-/
import Derived.Test.YtjilfolpkkhfmaaDoorCards
import Derived.Test.YtjilfolpkkhfmaaDoorTie
import Derived.Test.YtjilfolpkkhfmaaDoorFull2a
import Derived.Test.YtjilfolpkkhfmaaDoorFull2b
import Derived.Test.YtjilfolpkkhfmaaDoorFull2c
import Derived.Test.YtjilfolpkkhfmaaDoorFull2d
import Derived.Test.YtjilfolpkkhfmaaDoorFull2e
import Derived.Test.YtjilfolpkkhfmaaDoorFull2f
import Derived.Test.YtjilfolpkkhfmaaDoorFull2g
import Derived.Test.YtjilfolpkkhfmaaDoorFull2h
import Derived.WalkKit
import Derived.ProofKit
import Derived.OpenShut
import Derived.Deep.DeepHandedRow
import Derived.Lib.LaidTab
namespace Go.Proofs.YtjilfolpkkhfmaaDoor.Full
open Go.ChangeShapes Go.WideShapes Go.ChangeAt Go.RowKit Go.AM Tab

theorem E6_mem (p : Int) : E 6 p = 6 ∨ E 6 p = 7 ∨ E 6 p = 8 ∨ E 6 p = 9 ∨ E 6 p = 10 ∨ E 6 p = 11 ∨ E 6 p = 12 ∨ E 6 p = 13 := by
  have key : ∀ v : Nat, v < 8 → IntKind.wrap .i64 (6 + IntKind.wrap .i64 (v : Int)) = 6 + (v : Int) := by decide
  have hlt : (BitVec.ofInt (IntKind.bits .i64) p &&& BitVec.ofInt (IntKind.bits .i64) 7).toNat < 8 := by
    rw [BitVec.toNat_and]
    exact Nat.lt_of_le_of_lt Nat.and_le_right (by decide)
  unfold E
  rw [key _ hlt]
  omega
theorem E1_mem (p : Int) : E 1 p = 1 ∨ E 1 p = 2 ∨ E 1 p = 3 ∨ E 1 p = 4 ∨ E 1 p = 5 ∨ E 1 p = 6 ∨ E 1 p = 7 ∨ E 1 p = 8 := by
  have key : ∀ v : Nat, v < 8 → IntKind.wrap .i64 (1 + IntKind.wrap .i64 (v : Int)) = 1 + (v : Int) := by decide
  have hlt : (BitVec.ofInt (IntKind.bits .i64) p &&& BitVec.ofInt (IntKind.bits .i64) 7).toNat < 8 := by
    rw [BitVec.toNat_and]
    exact Nat.lt_of_le_of_lt Nat.and_le_right (by decide)
  unfold E
  rw [key _ hlt]
  omega

/-- THE RUN, for every argument. -/
theorem run (page more : Int) : ∃ σ', callA (plainA Tab.A) sumD 100000 3 [.int .i64 page, .int .i64 more] s0 = some (.bool true, σ') := by
  have hx : plainA Tab.A 3 = some k3.erase := by kernel_rfl
  have h1 := first page more
  rcases E6_mem page with h | h | h | h | h | h | h | h <;> rw [h] at h1
  · exact callA_of_cuts (n := 99999) hx call_le 4 1 h1 (second6 more) (third6 (E 1 more) more (E1_mem more))
  · exact callA_of_cuts (n := 99999) hx call_le 4 1 h1 (second7 more) (third7 (E 1 more) more (E1_mem more))
  · exact callA_of_cuts (n := 99999) hx call_le 4 1 h1 (second8 more) (third8 (E 1 more) more (E1_mem more))
  · exact callA_of_cuts (n := 99999) hx call_le 4 1 h1 (second9 more) (third9 (E 1 more) more (E1_mem more))
  · exact callA_of_cuts (n := 99999) hx call_le 4 1 h1 (second10 more) (third10 (E 1 more) more (E1_mem more))
  · exact callA_of_cuts (n := 99999) hx call_le 4 1 h1 (second11 more) (third11 (E 1 more) more (E1_mem more))
  · exact callA_of_cuts (n := 99999) hx call_le 4 1 h1 (second12 more) (third12 (E 1 more) more (E1_mem more))
  · exact callA_of_cuts (n := 99999) hx call_le 4 1 h1 (second13 more) (third13 (E 1 more) more (E1_mem more))

theorem own : ownKnob Tryd.prog.godebug = none := by kernel_rfl
theorem gTab : Tryd.prog.globalNamed "palisade/word.widths" = some 0 := by kernel_rfl
theorem gTabType : (Tryd.prog.globals[0]?).map (·.type) = some 145 := by kernel_rfl
theorem cells145 : Tryd.prog.cellsOf 145 = 4 := by kernel_rfl
theorem cells3 : Tryd.prog.cellsOf 3 = 1 := by kernel_rfl
theorem table {W : World} (h : laidMetH Tryd.prog Rows.backendFullRow.laid W) : Lib.TabIs Tryd.prog W "palisade/word.widths" .i64 [1, 0, 4, 8] :=
  Lib.tabIs_of_head (rest := []) gTab gTabType Tryd.underlying145 Tryd.underlying3 cells3 cells145 h

theorem walk (W : World) (hL : laidMetH Tryd.prog Rows.backendFullRow.laid W) (page more : Int) :
    Calls Tryd.prog 3 #[.int .i64 page, .int .i64 more] W fun e W' => e = .returned (.bool true) ∧ W'.os = W.os ∧ W'.output = W.output ∧ ∀ k, k < W.heap.size → W'.heap[k]? = W.heap[k]? := by
  obtain ⟨σ', hr⟩ := run page more
  refine (calls1 (callA_sound ctx aok sumD_ok 100000) (table hL) gTab (by kernel_rfl) (args := [.int .i64 page, .int .i64 more]) (fun ρ => ⟨rfl, fun i hi => ?_⟩) hr).mono ?_
  · match i, hi with
    | 0, _ => exact .int _ _
    | 1, _ => exact .int _ _
  · rintro e W' ⟨cv, ρ, rfl, hv, h1, h2, h3⟩
    cases hv
    exact ⟨rfl, h1, h2, h3⟩

set_option maxRecDepth 100000 in
theorem contract (H : Type) (enc : TypeId × Value → H) (W : World) (base : Nat) (args : Array Value) (ds gs : List (DataW H)) (before : List MemPlace)
    (hval : ∀ (j : Nat) t v, Tryd.f3.params[j]? = some t → args[j]? = some v → Value.okWide Tryd.prog W .any base t v)
    (hW : DataW.Whole enc Tryd.prog Tryd.f3.params.toList Rows.backendFullSpec.vars false W args.toList ds gs before) (hL : laidMetH Tryd.prog Rows.backendFullRow.laid W) :
    Calls Tryd.prog 3 args W fun e W' => ∃ v, e = .returned v ∧ Rows.backendFullSpec.post enc Tryd.prog Tryd.f3 false true false false W args v W' := by
  have hW' := hW
  obtain ⟨p, q, hA0, hV, rfl, hfz, hnd⟩ := hW
  have hA : DataW.TrodAll enc Tryd.prog W 0 (fun _ => true) true Tryd.f3.params.toList args.toList ds p := hA0
  rw [Tryd.params3] at hA hval
  obtain ⟨v0, vs0, d0, ds0, p0, q0, hargs, rfl, rfl, h0, r0⟩ := trodAll_cons hA
  obtain ⟨v1, vs1, d1, ds1, p1, q1, rfl, rfl, rfl, h1, r1⟩ := trodAll_cons r0
  obtain ⟨rfl, rfl, rfl⟩ := trodAll_nil r1
  obtain rfl : args = #[v0, v1] := by cases args; simp_all
  obtain ⟨rfl, rfl⟩ := trodVars_none hV
  obtain ⟨page, rfl, rfl, rfl, w0⟩ := open_int Tryd.underlying3 (hval 0 3 v0 rfl rfl) h0
  obtain ⟨more, rfl, rfl, rfl, w1⟩ := open_int Tryd.underlying3 (hval 1 3 v1 rfl rfl) h1
  clear hA0
  simp only [List.append_nil] at hW'
  refine (walk W hL page more).mono fun e W' ⟨he, hos, hout, hold⟩ => ?_
  subst he
  exact ⟨_, rfl, post_of_old (pa := []) (pv := []) hW' (fun _ _ _ => trodAll_cons_mk (shut_bool Tryd.underlying4 _) trodAll_mk0)
    (fun _ _ => trodAll_cons_mk (shut_int Tryd.underlying3 w0) (trodAll_cons_mk (shut_int Tryd.underlying3 w1) trodAll_mk0)) (fun _ _ => rfl) rfl
    hos hout hold (ok_one (by kernel_rfl) rfl (okWide_bool_mk Tryd.underlying4 _))⟩

/-- A world for the witness. -/
noncomputable def laidWorld (os : Os) : World :=
  { World.holding Tryd.prog os ⟨#[], #[], []⟩ with heap := (World.holding Tryd.prog os ⟨#[], #[], []⟩).heap.modify 0 fun
      | .cells _ t frozen => .cells #[.int .i64 1, .int .i64 0, .int .i64 4, .int .i64 8] t frozen
      | o => o }
theorem laid_met (os : Os) : laidMet Tryd.prog Rows.backendFullRow.laid ((laidWorld os).forCall (fun _ _ => 0) ⟨#[], #[.int .i64 0, .int .i64 0], []⟩).memory :=
  laidMet_of_run' 8 (by kernel_rfl) (by kernel_rfl)
theorem reads (os : Os) {H : Type} (enc : TypeId × Value → H) : ∃ places, DataW.whole enc Tryd.prog ((laidWorld os).forCall (fun _ _ => 0) ⟨#[], #[.int .i64 0, .int .i64 0], []⟩).memory Tryd.f3.params.toList Rows.backendFullSpec.vars false #[Value.int .i64 0, Value.int .i64 0].toList 8 = some ([.lit (.int .i64 0), .lit (.int .i64 0)], [], places) :=
  ⟨[], by kernel_rfl⟩

set_option maxRecDepth 100000 in
theorem lifted (os : Os) (started : os.Started) (H : Type) (enc : TypeId × Value → H) (F : Stop.Interp) :
    ReturnsInHanded {} Tryd.checked os 3 .any ((OpenSpec.ofChange Rows.backendFullSpec).preRow enc Tryd.prog Tryd.f3 Rows.backendFullRow.domain false Rows.backendFullRow.laid) (((OpenSpec.ofChange Rows.backendFullSpec).at F).post enc Tryd.prog Tryd.f3 false true false false) := by
  obtain ⟨places, hx⟩ := reads os enc
  refine returnsInHanded_of_row (C := Tryd.checked) (s := OpenSpec.ofChange Rows.backendFullSpec) own started (by kernel_rfl) Tryd.func3
    (witness_row_at (enc := enc) (C := Tryd.checked) false (laidWorld os) #[.int .i64 0, .int .i64 0] rfl (by kernel_rfl) (by kernel_rfl) (by kernel_rfl)
      (OpenSpec.preRow_of_cond 8 hx (by kernel_rfl) (fun k hk => by cases hk) (by kernel_rfl) (laid_met os))) ?_
  intro W base args ds gs before hval hW _ _ _ hL _ _
  exact contract H enc W base args ds gs before hval hW hL

theorem said : Rows.BackendFullSaid :=
  OpenClaim.holds_of_cond 3 Tryd.f3 rfl rfl rfl rfl rfl rfl rfl ⟨rfl, rfl, rfl, rfl, rfl⟩ rfl rfl rfl rfl rfl (by kernel_rfl) Tryd.func3 (by kernel_rfl)
    (of_decide_eq_true (by kernel_rfl)) (by unfold Func.isWrapper; first | (rw [if_pos (by decide +kernel)]; kernel_rfl) | (rw [if_neg (by decide +kernel)]; exact ⟨rfl, rfl⟩))
    (fun os started H enc _ F => by rw [OpenClaim.pre_eq_preRow]; exact lifted os started H enc F)

theorem plain (f : FuncId) (fn : Func) (hf : Tryd.pinned.checked.prog.funcNamed "palisade/palisadelaw24.BackendFull" = some f) (hfn : Tryd.pinned.checked.prog.funcs[f]? = some fn) :
    false = Tryd.pinned.checked.prog.looks [] ∧ ∀ (j : Nat) t, fn.params[j]? = some t → Tryd.pinned.checked.prog.wantsStandIn t = false := by
  obtain rfl : f = 3 := Option.some.inj ((show Tryd.prog.funcNamed "palisade/palisadelaw24.BackendFull" = some 3 by kernel_rfl).symm.trans hf) |>.symm
  obtain rfl : fn = Tryd.f3 := (Option.some.inj (Tryd.func3.symm.trans hfn)).symm
  refine ⟨by kernel_rfl, fun j t ht => ?_⟩
  rw [Tryd.params3] at ht
  have hm : t = 3 := by simpa using Array.mem_of_getElem? ht
  subst hm
  exact (show Tryd.prog.wantsStandIn 3 = false by kernel_rfl)

/-- THE CARD. -/
theorem card : Rows.BackendFullCardSaid :=
  Claim7.holds_tied_plain_at .later [] _ _ _ _ said (fun _ h => by cases h) (by kernel_rfl) (fun _ h => by cases h) backendFull_row_tie rfl ⟨rfl, rfl⟩ (by kernel_rfl) rfl plain (by kernel_rfl)
end Go.Proofs.YtjilfolpkkhfmaaDoor.Full
