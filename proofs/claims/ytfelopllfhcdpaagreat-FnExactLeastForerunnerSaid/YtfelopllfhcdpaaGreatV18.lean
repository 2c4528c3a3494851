/- How an argument that is a slice of flat elements tells its cells. -/
import Derived.Test.YtfelopllfhcdpaaGreatV17
set_option linter.all false
namespace Go.Proofs.YtfelopllfhcdpaaGreat.V
open Go.ChangeShapes Go.RowKit

section
variable {H : Type} {enc : TypeId × Value → H} {P : Program} {W : World} {base : Nat} {sp : Nat → Bool} {hd : Bool} {ti : Nat → TI}
theorem has_at {r : Reach} {b0 : Nat} {a : Addr} {e n : Nat} (h : W.has P r b0 a e n) : a.spot = none ∧ a.block < W.heap.size := by
  obtain ⟨_, h1, row, cells, h2, _⟩ := h
  refine ⟨h1, ?_⟩
  unfold World.shape? at h2
  rcases Nat.lt_or_ge a.block W.heap.size with h | h
  · exact h
  · rw [Array.getElem?_eq_none h] at h2; cases h2

theorem slice_arg (hti : ∀ t, TyOK P t (ti t)) {b0 t e : Nat} {v : Value} {d : DataW H} {ps : List MemPlace} (hk : (ti t).k = .sl e) (hb : flatB ti 9 e = true)
    (hval : Value.okWide P W .any b0 t v) (h : DataW.Trod enc P W base sp hd t v d ps) :
    v = .slice none 0 0 ∨ ∃ (b off len cap : Nat) (c : Nat → Value), v = .slice (some ⟨b, off, none⟩) len cap ∧ b < W.heap.size ∧ len ≤ cap ∧ cap ≤ maxLen ∧
      (∀ j, j < len * (ti e).sz → W.cell? ⟨b, off + j, none⟩ = some (c j)) ∧ ∀ i, i < len → flatC ti 9 e (fun j => c (i * (ti e).sz + j)) 0 := by
  have hu := (hti t).und
  rw [hk] at hu
  simp only at hu
  have he : P.cellsOf e = (ti e).sz := by
    obtain ⟨i, z, hi, hs, _⟩ := (hti e).info (by unfold flatB at hb; split at hb <;> simp_all)
    simp [Program.cellsOf, hi, hs]
  obtain ⟨fuel, hf⟩ := h
  rcases DataW.trod_slice hu hf with ⟨h0, _⟩ | ⟨a, len, cap, elems, rest, m, _, hcs, _, hba, hlc, hcm, hel, hcell, _, _⟩
  · left
    unfold Value.okWide at hval
    rw [hu] at hval
    unfold Cell.okWide Cell.ok at hval
    rw [hu] at hval
    cases v <;> simp [Value.cells] at h0 hval ⊢
    exact h0
  · right
    have hv : v = .slice (some a) len cap := by
      unfold Value.okWide at hval
      rw [hu] at hval
      unfold Cell.okWide Cell.ok at hval
      rw [hu] at hval
      cases v <;> simp [Value.cells] at hcs hval ⊢
      exact hcs
    subst hv
    have hhas : W.has P .any b0 a e cap := by
      unfold Value.okWide at hval
      rw [hu] at hval
      unfold Cell.okWide Cell.ok at hval
      rw [hu] at hval
      exact hval.2.2
    obtain ⟨hsp, hblk⟩ := has_at hhas
    obtain ⟨b, off, spot⟩ := a
    simp only at hsp hblk
    subst hsp
    refine ⟨b, off, len, cap, fun j => (W.cell? ⟨b, off + j, none⟩).getD undef, rfl, hblk, hlc, hcm, ?_, ?_⟩
    all_goals
      have each : ∀ i, i < len → ∃ cs' : List Value, cs'.length = (ti e).sz ∧ (∀ j, j < (ti e).sz → W.cell? ⟨b, off + (i * (ti e).sz + j), none⟩ = cs'[j]?) ∧ flatC ti 9 e (fun j => cs'.getD j undef) 0 := by
        intro i hi
        have h1 := hcell i hi
        rw [he] at h1
        have hsome : ∃ y, elems[i]? = some y := ⟨elems[i]'(by omega), List.getElem?_eq_getElem _⟩
        obtain ⟨y, hy⟩ := hsome
        rw [hy] at h1
        cases hc : W.cells? base (Addr.add ⟨b, off, none⟩ (i * (ti e).sz)) (ti e).sz with
        | none => rw [hc] at h1; cases h1
        | some cs' =>
          rw [hc] at h1
          simp only [Option.bind_some] at h1
          obtain ⟨_, hl, hcc⟩ := World.cells?_some hc
          refine ⟨cs', hl, fun j hj => ?_, (flat_trod hti 9 m e cs' y.1 y.2 hb h1).1⟩
          have := hcc j hj
          rw [← this]
          congr 1
          have ad : ∀ (x : Addr) (k : Nat), x.spot = none → x.add k = ⟨x.block, x.off + k, none⟩ := fun x k hx => by
            obtain ⟨b, o, s⟩ := x
            simp only at hx
            subst hx
            unfold Addr.add
            split <;> simp_all
          rw [ad _ _ (by rw [ad _ _ rfl]), ad _ _ rfl]
          simp only [Nat.add_assoc]
    · intro j hj
      have hpos : 0 < (ti e).sz := by
        rcases Nat.eq_zero_or_pos (ti e).sz with h | h
        · rw [h] at hj; omega
        · exact h
      obtain ⟨cs', hl, hcc, _⟩ := each (j / (ti e).sz) (Nat.div_lt_of_lt_mul (by rwa [Nat.mul_comm] at hj))
      have h1 := hcc (j % (ti e).sz) (Nat.mod_lt _ hpos)
      rw [show j / (ti e).sz * (ti e).sz + j % (ti e).sz = j from Nat.div_add_mod' j _] at h1
      have hlt : j % (ti e).sz < cs'.length := by rw [hl]; exact Nat.mod_lt _ hpos
      rw [List.getElem?_eq_getElem hlt] at h1
      show _ = some ((W.cell? ⟨b, off + j, none⟩).getD undef)
      rw [h1]; rfl
    · intro i hi
      obtain ⟨cs', hl, hcc, hflat⟩ := each i hi
      have := flatC_shift (d := 0) 9 e _ (fun j => (W.cell? ⟨b, off + (i * (ti e).sz + j), none⟩).getD undef) 0 (fun j hj => ?_) hflat
      · simpa using this
      · rcases Nat.lt_or_ge j (ti e).sz with h | h
        · rw [Nat.zero_add, hcc j h, List.getD_eq_getElem?_getD]
        · exfalso; apply hj; rw [List.getD_eq_getElem?_getD, List.getElem?_eq_none (by omega)]; rfl
end
theorem svOf_lt (v : Value) (m : Nat) : (svOf v).lt m := by cases v <;> trivial
theorem sat1 (W : World) (b off m : Nat) (c : Nat → Value) (hb : b < W.heap.size) (hc : ∀ j, j < m → W.cell? ⟨b, off + j, none⟩ = some (c j)) :
    SatH (cx0 W) (fun _ => (b, off)) [(0, ⟨m, fun j => svOf (c j), false, none⟩)] 1 W := by
  have one : ∀ i s, hget [(0, (⟨m, fun j => svOf (c j), false, none⟩ : Seg))] i = some s → i = 0 ∧ s = ⟨m, fun j => svOf (c j), false, none⟩ := fun i s h => by
    simp only [hget] at h
    split at h
    · rename_i e; exact ⟨e.symm, by simpa using h.symm⟩
    · cases h
  refine ⟨Keeps.refl _ _, fun i s h => ?_, fun i j s t hij hs ht => ?_, fun i s h => ?_⟩
  · obtain ⟨rfl, rfl⟩ := one i s h
    exact ⟨hb, (fun j hj => by simp only [den_svOf]; exact hc j hj), (fun h => by cases h), (fun T m h => by cases h)⟩
  · obtain ⟨rfl, rfl⟩ := one i s hs
    obtain ⟨rfl, rfl⟩ := one j t ht
    exact absurd rfl hij
  · obtain ⟨rfl, rfl⟩ := one i s h
    exact ⟨by omega, fun k hk => svOf_lt _ _⟩
end Go.Proofs.YtfelopllfhcdpaaGreat.V
