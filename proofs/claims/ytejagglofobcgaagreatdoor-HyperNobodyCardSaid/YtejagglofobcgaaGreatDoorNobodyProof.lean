/-
  HyperNobody: whatever the number and the bytes are, the law returns true; the input reads as it did.
  The conditions are the card's own: the tables palisade/word.widths and palisade/entry.places hold what the program's text lays.
-/
import Derived.Test.YtejagglofobcgaaGreatDoorCards
import Derived.Test.YtejagglofobcgaaGreatDoorTie
import Derived.Test.YtejagglofobcgaaGreatDoorAM31
import Derived.Test.YtejagglofobcgaaGreatDoorTab
import Derived.Test.YtejagglofobcgaaGreatDoorNobodyFacts
import Derived.Test.YtejagglofobcgaaGreatDoorNobodyFactsB
import Derived.WalkKit
import Derived.ProofKit
import Derived.OpenShut
import Derived.Deep.DeepHandedRow
import Derived.Lib.LaidTab
import Derived.WideKeyArgs
namespace Go.Proofs.YtejagglofobcgaaGreatDoor.Nobody
open Go.ChangeShapes Go.WideShapes Go.ChangeAt Go.RowKit Go.AM Tab
set_option maxRecDepth 100000

def s0 : Sto := ⟨3, .leaf⟩
def yes (r : Option (Value × Sto)) : Bool :=
  match r with
  | some (.bool true, _) => true
  | _ => false
theorem yes_of {r : Option (Value × Sto)} (h : yes r = true) : ∃ σ', r = some (.bool true, σ') := by
  unfold yes at h
  split at h
  · exact ⟨_, rfl⟩
  · cases h

/-- THE RUN, for every argument. -/
theorem run_nil (n : Int) : yes (callX Tab.A noSum 1000 4 [.int .i64 n, .slice none 0 0] s0) = true := by kernel_rfl
theorem run_slice (n : Int) (len cap : Nat) : yes (callX Tab.A noSum 1000 4 [.int .i64 n, .slice (some ⟨2, 0, none⟩) len cap] s0) = true := by kernel_rfl

theorem own : ownKnob Tryz.prog.godebug = none := by kernel_rfl

/-- Where the globals and the bytes lie. -/
def rho (blk off : Nat) : Ren := fun b => if b = 0 then some ⟨0, 0, 0⟩ else if b = 1 then some ⟨1, 0, 0⟩ else if b = 2 then some ⟨blk, off, 0⟩ else none
theorem rho_lt (blk off : Nat) : ∀ b l, rho blk off b = some l → b < 3 := by
  intro b l h
  unfold rho at h
  split at h
  · omega
  · split at h
    · omega
    · split at h
      · omega
      · cases h
theorem rho_gr (blk off : Nat) : GR Tryz.prog (rho blk off) := by
  intro g hg
  have h2 : Tryz.prog.globals.size = 2 := by kernel_rfl
  rw [h2] at hg
  have : g = 0 ∨ g = 1 := by omega
  rcases this with rfl | rfl
  · exact ⟨⟨0, 0, 0⟩, rfl, rfl, rfl⟩
  · exact ⟨⟨1, 0, 0⟩, rfl, rfl, rfl⟩

theorem walk (W : World) (n : Int) (b : Value) (hb : b = .slice none 0 0 ∨ ∃ blk off len cap, b = .slice (some ⟨blk, off, none⟩) len cap ∧ cap < CAPX) :
    Calls Tryz.prog 4 #[.int .i64 n, b] W fun e W' => e = .returned (.bool true) ∧ W'.os = W.os ∧ W'.output = W.output ∧ ∀ k, k < W.heap.size → W'.heap[k]? = W.heap[k]? := by
  have fin : ∀ (ρ : Ren) (v : Value), (∀ b l, ρ b = some l → b < 3) → GR Tryz.prog ρ → VR ρ v b → yes (callX Tab.A noSum 1000 4 [.int .i64 n, v] s0) = true →
      Calls Tryz.prog 4 #[.int .i64 n, b] W fun e W' => e = .returned (.bool true) ∧ W'.os = W.os ∧ W'.output = W.output ∧ ∀ k, k < W.heap.size → W'.heap[k]? = W.heap[k]? := by
    intro ρ v h1 h2 h3 h4
    obtain ⟨σ', hr⟩ := yes_of h4
    refine (calls0 (callA_sound ctx aok (noSum_ok _) 1000) h1 h2 (args := [.int .i64 n, v]) (cargs := #[.int .i64 n, b]) ⟨rfl, fun i hi => ?_⟩ (callX_le Tab.A noSum 1000 _ _ _ _ hr)).mono ?_
    · match i, hi with
      | 0, _ => exact .int _ _
      | 1, _ => exact h3
    · rintro e W' ⟨cv, ρ', rfl, hv, h5, h6, h7⟩
      cases hv
      exact ⟨rfl, h5, h6, h7⟩
  rcases hb with rfl | ⟨blk, off, len, cap, rfl, hcap⟩
  · exact fin (rho 0 0) (.slice none 0 0) (rho_lt 0 0) (rho_gr 0 0) (.nilslice 0 0) (run_nil n)
  · exact fin (rho blk off) (.slice (some ⟨2, 0, none⟩) len cap) (rho_lt blk off) (rho_gr blk off) (.slice 2 0 len cap ⟨blk, off, 0⟩ rfl hcap) (run_slice n len cap)

theorem laidOut : laidOutB Tryz.prog = true := by kernel_rfl

/-- What a slice may be. -/
theorem slice_cases {W : World} {base : Nat} {v : Value} (h : Value.okWide Tryz.prog W .any base 22 v) : v = .slice none 0 0 ∨ ∃ blk off len cap, v = .slice (some ⟨blk, off, none⟩) len cap ∧ cap < CAPX := by
  obtain ⟨a, len, cap, rfl⟩ := okWide_slice Tryz.underlying22 h
  simp only [Value.okWide, Tryz.underlying22, Cell.okWide, Cell.ok] at h
  cases a with
  | none =>
    left
    cases len with
    | zero => cases cap with
      | zero => rfl
      | succ c => exact h.elim
    | succ c => exact h.elim
  | some a =>
    right
    obtain ⟨_, h2, h3⟩ := h
    obtain ⟨blk, off, spot⟩ := a
    have hs : spot = none := h3.2.1
    subst hs
    refine ⟨blk, off, len, cap, rfl, ?_⟩
    have : IntKind.i64.max = 9223372036854775807 := by decide
    unfold CAPX
    omega

theorem contract (H : Type) (enc : TypeId × Value → H) (W : World) (base : Nat) (args : Array Value) (ds gs : List (DataW H)) (before : List MemPlace)
    (hval : ∀ (j : Nat) t v, Tryz.f4.params[j]? = some t → args[j]? = some v → Value.okWide Tryz.prog W .any base t v)
    (hW : DataW.Whole enc Tryz.prog Tryz.f4.params.toList Rows.hyperNobodySpec.vars false W args.toList ds gs before) :
    Calls Tryz.prog 4 args W fun e W' => ∃ v, e = .returned v ∧ Rows.hyperNobodySpec.post enc Tryz.prog Tryz.f4 false true false false W args v W' := by
  have hW' := hW
  obtain ⟨p, q, hA0, hV, rfl, hfz, hnd⟩ := hW
  have hA : DataW.TrodAll enc Tryz.prog W 0 (fun _ => true) true Tryz.f4.params.toList args.toList ds p := hA0
  rw [Tryz.params4] at hA hval
  obtain ⟨v0, vs0, d0, ds0, p0, q0, hargs, rfl, rfl, h0, r0⟩ := trodAll_cons hA
  obtain ⟨v1, vs1, d1, ds1, p1, q1, rfl, rfl, rfl, h1, r1⟩ := trodAll_cons r0
  obtain ⟨rfl, rfl, rfl⟩ := trodAll_nil r1
  obtain rfl : args = #[v0, v1] := by cases args; simp_all
  obtain ⟨rfl, rfl⟩ := trodVars_none hV
  obtain ⟨n, rfl, rfl, rfl, w0⟩ := open_int Tryz.underlying3 (hval 0 3 v0 rfl rfl) h0
  have hb := slice_cases (hval 1 22 v1 rfl rfl)
  have hlt : ∀ x ∈ p1, x.block < W.heap.size := fun x hx => hW'.lt x (by simpa using hx)
  clear hA0
  simp only [List.append_nil, List.nil_append] at hW'
  refine (walk W n v1 hb).mono fun e W' ⟨he, hos, hout, hold⟩ => ?_
  subst he
  refine ⟨_, rfl, post_of_old (pa := p1) (pv := []) hW' (fun _ _ _ => trodAll_cons_mk (shut_bool Tryz.underlying4 _) trodAll_mk0)
    (fun sp hsp => trodAll_cons_mk (p := []) (shut_int Tryz.underlying3 w0) (trodAll_mk1 (WideElems.Trod_stays laidOut (by kernel_rfl) (of_decide_eq_true (by kernel_rfl)) h1 (fun x hx => ?_) (fun x hx => hsp x (by simpa using hx))))) (fun _ _ => rfl) (by simp)
    hos hout hold (ok_one (by kernel_rfl) rfl (okWide_bool_mk Tryz.underlying4 _))⟩
  have hh := hold x.block (hlt x hx)
  cases x with
  | cell b off => exact cell_of_heap hh
  | map b => exact hh

/-- A world for the witness. -/
def fill (cs : Array Value) : Obj → Obj
  | .cells _ t frozen => .cells cs t frozen
  | o => o
noncomputable def laidWorld (os : Os) : World :=
  { World.holding Tryz.prog os ⟨#[], #[], []⟩ with heap := ((World.holding Tryz.prog os ⟨#[], #[], []⟩).heap.modify 0 (fill #[.int .i64 0, .int .i64 1, .int .i64 2, .int .i64 3, .int .i64 4, .int .i64 5, .int .i64 6])).modify 1 (fill #[.int .i64 1, .int .i64 0, .int .i64 4, .int .i64 8]) }
theorem laid_met (os : Os) : laidMet Tryz.prog Rows.hyperNobodyRow.laid ((laidWorld os).forCall (fun _ _ => 0) ⟨#[], #[.int .i64 0, .slice none 0 0], []⟩).memory :=
  laidMet_of_run' 8 (by kernel_rfl) (by kernel_rfl)
theorem reads (os : Os) {H : Type} (enc : TypeId × Value → H) : ∃ places, DataW.whole enc Tryz.prog ((laidWorld os).forCall (fun _ _ => 0) ⟨#[], #[.int .i64 0, .slice none 0 0], []⟩).memory Tryz.f4.params.toList Rows.hyperNobodySpec.vars false #[Value.int .i64 0, Value.slice none 0 0].toList 8 = some ([.lit (.int .i64 0), .nil], [], places) :=
  ⟨[], by kernel_rfl⟩

theorem lifted (os : Os) (started : os.Started) (H : Type) (enc : TypeId × Value → H) (F : Stop.Interp) :
    ReturnsInHanded {} Tryz.checked os 4 .any ((OpenSpec.ofChange Rows.hyperNobodySpec).preRow enc Tryz.prog Tryz.f4 Rows.hyperNobodyRow.domain false Rows.hyperNobodyRow.laid) (((OpenSpec.ofChange Rows.hyperNobodySpec).at F).post enc Tryz.prog Tryz.f4 false true false false) := by
  obtain ⟨places, hx⟩ := reads os enc
  refine returnsInHanded_of_row (C := Tryz.checked) (s := OpenSpec.ofChange Rows.hyperNobodySpec) own started (by kernel_rfl) Tryz.func4
    (witness_row_at (enc := enc) (C := Tryz.checked) false (laidWorld os) #[.int .i64 0, .slice none 0 0] rfl (by kernel_rfl) (by kernel_rfl) (by kernel_rfl)
      (OpenSpec.preRow_of_cond 8 hx (by kernel_rfl) (fun k hk => by cases hk) (by kernel_rfl) (laid_met os))) ?_
  intro W base args ds gs before hval hW _ _ _ _ _ _
  exact contract H enc W base args ds gs before hval hW

theorem said : Rows.HyperNobodySaid :=
  OpenClaim.holds_of_cond 4 Tryz.f4 rfl rfl rfl rfl rfl rfl rfl ⟨rfl, rfl, rfl, rfl, rfl⟩ rfl rfl rfl rfl rfl rowName Tryz.func4 closed
    (of_decide_eq_true rowInst) rowWrap
    (fun os started H enc _ F => by rw [OpenClaim.pre_eq_preRow]; exact lifted os started H enc F)

theorem plain (f : FuncId) (fn : Func) (hf : Tryz.pinned.checked.prog.funcNamed "palisade/palisadelaw26.HyperNobody" = some f) (hfn : Tryz.pinned.checked.prog.funcs[f]? = some fn) :
    true = Tryz.pinned.checked.prog.looks [] ∧ ∀ (j : Nat) t, fn.params[j]? = some t → Tryz.pinned.checked.prog.wantsStandIn t = false := by
  obtain rfl : f = 4 := Option.some.inj ((show Tryz.prog.funcNamed "palisade/palisadelaw26.HyperNobody" = some 4 by kernel_rfl).symm.trans hf) |>.symm
  obtain rfl : fn = Tryz.f4 := (Option.some.inj (Tryz.func4.symm.trans hfn)).symm
  refine ⟨by kernel_rfl, fun j t ht => ?_⟩
  rw [Tryz.params4] at ht
  have hm : t = 3 ∨ t = 22 := by simpa using Array.mem_of_getElem? ht
  rcases hm with rfl | rfl
  · exact (show Tryz.prog.wantsStandIn 3 = false by kernel_rfl)
  · exact (show Tryz.prog.wantsStandIn 22 = false by kernel_rfl)

/-- THE CARD. -/
theorem card : Rows.HyperNobodyCardSaid :=
  Claim7.holds_tied_plain_at .later [] _ _ _ _ said (fun _ h => by cases h) cardWf (fun _ h => by cases h) hyperNobody_row_tie rfl ⟨rfl, rfl⟩ cardMain rfl plain cardGoes
end Go.Proofs.YtejagglofobcgaaGreatDoor.Nobody
