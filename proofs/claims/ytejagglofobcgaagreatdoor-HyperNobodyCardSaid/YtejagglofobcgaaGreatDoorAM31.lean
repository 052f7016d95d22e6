/- From the interpreter to a row: a run that asks nothing of memory. -/
import Derived.Test.YtejagglofobcgaaGreatDoorAM26
namespace Go.AM

theorem foot0 {ρ : Ren} {N : Nat} (k : Nat) : ¬ Foot ρ ⟨N, .leaf⟩ k := by
  rintro ⟨b, o, l, h1, _⟩
  cases h1

theorem sim0 {ρ : Ren} {N : Nat} {W : World} (hρ : ∀ b l, ρ b = some l → b < N) : Sim ρ ⟨N, .leaf⟩ W :=
  ⟨(fun b o h => by cases h), (fun b b' o o' l l' h => by cases h), fun b l h => hρ b l h⟩

/-- A call, where the interpreter comes to an end without a look at what was there. -/
theorem calls0 {P : Program} {call : CallF} (hcall : CallsOK P call) {W : World} {ρ : Ren} {N : Nat} (hρ : ∀ b l, ρ b = some l → b < N) (hG : GR P ρ)
    {f : FuncId} {args : List Value} {cargs : Array Value} (hargs : VRl ρ args cargs.toList) {v : Value} {σ' : Sto} (hr : call f args ⟨N, .leaf⟩ = some (v, σ')) :
    Calls P f cargs W fun e W' => ∃ cv ρ', e = .returned cv ∧ VR ρ' v cv ∧ W'.os = W.os ∧ W'.output = W.output ∧ ∀ k, k < W.heap.size → W'.heap[k]? = W.heap[k]? := by
  obtain ⟨_, hc⟩ := hcall f args _ v σ' hr ρ W cargs (sim0 hρ) hG hargs
  refine hc.mono ?_
  rintro e W' ⟨cv, ρ', rfl, hv, _, he⟩
  exact ⟨cv, ρ', rfl, hv, he.os, he.output, fun k hk => he.pres k hk (foot0 k)⟩

theorem cell_of_heap {W W' : World} {b off : Nat} (h : W'.heap[b]? = W.heap[b]?) : W'.cell? ⟨b, off, none⟩ = W.cell? ⟨b, off, none⟩ := by
  simp only [World.cell?, h]

end Go.AM
