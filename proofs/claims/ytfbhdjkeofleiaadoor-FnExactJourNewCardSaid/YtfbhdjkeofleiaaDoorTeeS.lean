/- Regions whose order the model draws: the first blocks alone. -/
import Derived.Test.YtfbhdjkeofleiaaDoorTeeR
namespace Go.Proofs.YtfbhdjkeofleiaaDoor.T
open Go
set_option linter.unusedVariables false
set_option linter.unusedSimpArgs false
set_option linter.unnecessarySimpa false

def Rho.low (ρ : Rho) (n : Nat) : Rho := fun b => if b < n then ρ b else none
theorem Rho.low_some {ρ : Rho} {n b : Nat} {e : E} (h : ρ.low n b = some e) : b < n ∧ ρ b = some e := by
  unfold Rho.low at h; split at h
  · exact ⟨‹_›, h⟩
  · cases h
theorem Rho.low_of {ρ : Rho} {n b : Nat} {e : E} (hb : b < n) (h : ρ b = some e) : ρ.low n b = some e := by unfold Rho.low; rw [if_pos hb, h]
theorem Rho.low_le (ρ : Rho) (n : Nat) : Rle (ρ.low n) ρ := fun b e h => (Rho.low_some h).2

section
variable {ρ ρt : Rho} {N : Nat}
mutual
theorem VR.low (hN : ∀ b e, ρt b = some e → b < N) : ∀ (x : V) (c ct : Value), VR ρt x ct → VR ρ x c → VR (ρ.low N) x c
  | .int _ _, _, _, _, h => by simpa [VR] using h
  | .bool _, _, _, _, h => by simpa [VR] using h
  | .str _, _, _, _, h => by simpa [VR] using h
  | .nilf, _, _, _, h => by simpa [VR] using h
  | .nili, _, _, _, h => by simpa [VR] using h
  | .any, _, _, _, _ => by simp [VR]
  | .ptr none, _, _, _, h => by simpa [VR] using h
  | .ptr (some (b, i, j)), _, _, ht, h => by
    simp only [VR] at ht h ⊢
    obtain ⟨et, hb, _⟩ := ht
    obtain ⟨e, he, hv⟩ := h
    exact ⟨e, Rho.low_of (hN b et hb) he, hv⟩
  | .lp _ _, _, _, _, h => by simp [VR] at h
  | .sl _ none _ _, _, _, _, h => by simpa [VR] using h
  | .sl _ (some (b, i)) _ _, _, _, ht, h => by
    simp only [VR] at ht h ⊢
    obtain ⟨et, _, _, hb, _⟩ := ht
    obtain ⟨e, x, cc, he, hv⟩ := h
    exact ⟨e, x, cc, Rho.low_of (hN b et hb) he, hv⟩
  | .map none, _, _, _, h => by simpa [VR] using h
  | .map (some b), _, _, ht, h => by
    simp only [VR] at ht h ⊢
    obtain ⟨et, hb, _⟩ := ht
    obtain ⟨e, he, hv⟩ := h
    exact ⟨e, Rho.low_of (hN b et hb) he, hv⟩
  | .fn _ cs, _, _, ht, h => by
    simp only [VR] at ht h ⊢
    obtain ⟨_, _, yt, _, _, hct⟩ := ht
    obtain ⟨fst, cps, ys, hv, hi, hc⟩ := h
    exact ⟨fst, cps, ys, hv, hi, VRs.low hN cs _ _ hct hc⟩
  | .ifc _ x, _, _, ht, h => by
    simp only [VR] at ht h ⊢
    obtain ⟨yt, _, hct⟩ := ht
    obtain ⟨y, hv, hc⟩ := h
    exact ⟨y, hv, VR.low hN x _ _ hct hc⟩
  | .agg cs, _, _, ht, h => by
    simp only [VR] at ht h ⊢
    obtain ⟨yt, _, hct⟩ := ht
    obtain ⟨ys, hv, hc⟩ := h
    exact ⟨ys, hv, VRs.low hN cs _ _ hct hc⟩
  | .tup cs, _, _, ht, h => by
    simp only [VR] at ht h ⊢
    obtain ⟨yt, _, hct⟩ := ht
    obtain ⟨ys, hv, hc⟩ := h
    exact ⟨ys, hv, VRs.low hN cs _ _ hct hc⟩
theorem VRs.low (hN : ∀ b e, ρt b = some e → b < N) : ∀ (xs : List V) (cs ct : List Value), VRs ρt xs ct → VRs ρ xs cs → VRs (ρ.low N) xs cs
  | [], _, _, _, h => by simpa [VRs] using h
  | x :: xs, _, _, ht, h => by
    simp only [VRs] at ht h ⊢
    obtain ⟨yt, rt, _, h1t, h2t⟩ := ht
    obtain ⟨y, r, hy, h1, h2⟩ := h
    exact ⟨y, r, hy, VR.low hN x _ _ h1t h1, VRs.low hN xs _ _ h2t h2⟩
end
variable (hN : ∀ b e, ρt b = some e → b < N)
include hN
theorem KVR.low : ∀ (kv : List (V × V)) (es et : List MapEntry), KVR ρt kv et → KVR ρ kv es → KVR (ρ.low N) kv es
  | [], _, _, _, h => by simpa [KVR] using h
  | (k, v) :: r, _, _, ht, h => by
    simp only [KVR] at ht h ⊢
    obtain ⟨yt, rt, _, h1t, h2t, h3t⟩ := ht
    obtain ⟨e, t, he, h1, h2, h3⟩ := h
    exact ⟨e, t, he, VR.low hN _ _ _ h1t h1, VR.low hN _ _ _ h2t h2, KVR.low r _ _ h3t h3⟩
theorem BR.low {e et : E} {w wt : World} : ∀ {k : Blk}, BR ρt et k wt → BR ρ e k w → BR (ρ.low N) e k w
  | .rows R el ro rs, ht, h => by
    obtain ⟨ct, ft, _, _, _, _, _, _, h7t, _⟩ := ht
    obtain ⟨cs, fr, h1, h2, h3, h4, h5, h6, h7, h8⟩ := h
    refine ⟨cs, fr, h1, h2, h3, h4, h5, h6, fun i row hi => ⟨(h7 i row hi).1, fun j v hv => ?_⟩, h8⟩
    obtain ⟨c, g1, g2⟩ := (h7 i row hi).2 j v hv
    obtain ⟨c', _, g3⟩ := (h7t i row hi).2 j v hv
    exact ⟨c, g1, VR.low hN _ _ _ g3 g2⟩
  | .map _ kv, ht, h => by
    obtain ⟨_, _, _, h2t⟩ := ht
    obtain ⟨es, clock, h1, h2⟩ := h
    exact ⟨es, clock, h1, KVR.low hN _ _ _ h2t h2⟩
  | .dead, _, _ => trivial
end
end Go.Proofs.YtfbhdjkeofleiaaDoor.T
