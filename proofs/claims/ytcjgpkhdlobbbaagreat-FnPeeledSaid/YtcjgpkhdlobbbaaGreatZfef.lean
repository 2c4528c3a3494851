/- Part 6 of the texts that this proof stands on: a symbolic walk over the program, what its functions and the reference's do, plain laws. -/
import Derived.Test.YtcjgpkhdlobbbaaGreatZfee
import Derived.Test.YtcjgpkhdlobbbaaGreatV18
import Derived.Test.YtcjgpkhdlobbbaaGreatZfec
set_option linter.all false

/- Arguments of a law, one by one. -/
namespace Go.Proofs.YtcjgpkhdlobbbaaGreat.V
open Go.ChangeShapes Go.RowKit
section
variable {H : Type} {enc : TypeId × Value → H} {P : Program} {w : World} {base : Nat} {spare : Nat → Bool} {held : Bool} {args : Array Value} {ds : List (DataW H)} {ps : List MemPlace}
theorem trodA2 {t0 t1 : TypeId} (h : DataW.TrodAll enc P w base spare held [t0, t1] args.toList ds ps) :
    ∃ v0 v1 d0 d1 p0 p1, args = #[v0, v1] ∧ ds = [d0, d1] ∧ ps = p0 ++ p1 ∧ DataW.Trod enc P w base spare held t0 v0 d0 p0 ∧ DataW.Trod enc P w base spare held t1 v1 d1 p1 := by
  obtain ⟨v0, vs0, d0, ds0, p0, q0, hargs, rfl, rfl, h0, hr0⟩ := trodAll_cons h
  obtain ⟨v1, vs1, d1, ds1, p1, q1, rfl, rfl, rfl, h1, hr1⟩ := trodAll_cons hr0
  obtain ⟨rfl, rfl, rfl⟩ := trodAll_nil hr1
  exact ⟨v0, v1, d0, d1, p0, p1, by cases args; simp_all, rfl, by simp, h0, h1⟩
end
end Go.Proofs.YtcjgpkhdlobbbaaGreat.V

/- Two slices of bytes that came in. -/
namespace Go.Proofs.YtcjgpkhdlobbbaaGreat.V
open Go.ChangeShapes Go.RowKit
/-- A slice of bytes that came in. -/
def ByArg (h : List (Nat × Seg)) (n : Nat) (A : SV) (len : Nat) : Prop :=
  (A = .nils ∧ len = 0) ∨ ∃ j cap s, A = .sl j 0 len cap ∧ j < n ∧ hget h j = some s ∧ len ≤ s.n ∧ ∀ k, k < len → ∃ v : Int, s.c k = .int .u8 v ∧ 0 ≤ v ∧ v < 256
theorem ByArg.lt {h : List (Nat × Seg)} {n : Nat} {A : SV} {len : Nat} (hA : ByArg h n A len) : A.lt n := by
  rcases hA with ⟨rfl, _⟩ | ⟨j, cap, s, rfl, hj, _⟩
  · trivial
  · exact hj
theorem ByArg.up {h h' : List (Nat × Seg)} {n n' : Nat} {A : SV} {len : Nat} (hA : ByArg h n A len) (hn : n ≤ n') (hx : HExt n h h') : ByArg h' n' A len := by
  rcases hA with ⟨rfl, e⟩ | ⟨j, cap, s, rfl, hj, hg, hr⟩
  · exact .inl ⟨rfl, e⟩
  · exact .inr ⟨j, cap, s, rfl, by omega, hx j hj _ hg, hr⟩
def ROnly (h : List (Nat × Seg)) : Prop := ∀ i s, hget h i = some s → s.rw = false ∧ s.own = none
theorem sat_cons {W : World} {ρ : Rho} {h : List (Nat × Seg)} {n : Nat} (sh : SatH (cx0 W) ρ h n W) (hr : ROnly h) (b off m : Nat) (c : Nat → Value) (hb : b < W.heap.size) (hc : ∀ j, j < m → W.cell? ⟨b, off + j, none⟩ = some (c j)) :
    ∃ ρ' : Rho, (∀ i, i < n → ρ i = ρ' i) ∧ ρ' n = (b, off) ∧ SatH (cx0 W) ρ' ((n, ⟨m, fun j => svOf (c j), false, none⟩) :: h) (n + 1) W ∧ ROnly ((n, ⟨m, fun j => svOf (c j), false, none⟩) :: h) := by
  have ro : ROnly ((n, ⟨m, fun j => svOf (c j), false, none⟩) :: h) := fun i s hs => by
    simp only [hget] at hs
    split at hs
    · cases hs; exact ⟨rfl, rfl⟩
    · exact hr i s hs
  refine ⟨fun i => if i = n then (b, off) else ρ i, fun i hi => by simp [Nat.ne_of_lt hi], by simp, ?_, ro⟩
  generalize hρ : (fun i => if i = n then (b, off) else ρ i) = ρ'
  have e1 : ∀ i, i < n → ρ i = ρ' i := fun i hi => by rw [← hρ]; simp [Nat.ne_of_lt hi]
  have e2 : ρ' n = (b, off) := by rw [← hρ]; simp
  have s2 := sh.rho e1
  refine ⟨Keeps.refl _ _, fun i s hs => ?_, fun i j s t hij hs ht hw => ?_, fun i s hs => ?_⟩
  · simp only [hget] at hs
    split at hs
    · rename_i e; subst e; cases hs
      refine ⟨by rw [e2]; exact hb, fun j hj => ?_, (fun hh => by cases hh), (fun T m hh => by cases hh)⟩
      rw [e2]; simp only [den_svOf]; exact hc j hj
    · exact s2.seg i s hs
  · obtain ⟨h1, h2⟩ := ro i s hs
    rw [h1, h2] at hw
    rcases hw with hw | hw <;> cases hw
  · simp only [hget] at hs
    split at hs
    · rename_i e; subst e; cases hs
      exact ⟨by omega, fun k hk => svOf_lt _ _⟩
    · exact ⟨by have := (s2.lt i s hs).1; omega, fun k hk => SV.lt_mono (by omega) _ ((s2.lt i s hs).2 k hk)⟩
set_option maxRecDepth 100000 in
theorem bytes_arg {H : Type} {enc : TypeId × Value → H} {W : World} {b0 : Nat} {v : Value} {d : DataW H} {ps : List MemPlace} {base : Nat} {sp : Nat → Bool} {hd : Bool}
    (hval : Value.okWide Tryz.prog W .any b0 22 v) (h : DataW.Trod enc Tryz.prog W base sp hd 22 v d ps)
    {ρ : Rho} {hm : List (Nat × Seg)} {n : Nat} (sh : SatH (cx0 W) ρ hm n W) (hr : ROnly hm) :
    ∃ (ρ' : Rho) (h' : List (Nat × Seg)) (A : SV) (len : Nat), (∀ i, i < n → ρ i = ρ' i) ∧ SatH (cx0 W) ρ' h' (n + 1) W ∧ ROnly h' ∧ HExt n hm h' ∧ ByArg h' (n + 1) A len ∧ den ρ' A = v := by
  have hk : (ti 22).k = .sl 5 := by simp only [go_sem]
  have hfb : flatB ti 9 5 = true := by kernel_rfl
  rcases slice_arg hti hk hfb hval h with rfl | ⟨b, off, len, cap, c, rfl, hb, hlc, hcm, hcell, hflat⟩
  · exact ⟨ρ, hm, .nils, 0, fun _ _ => rfl, ⟨sh.keeps, sh.seg, sh.dis, fun i s hs => ⟨by have := (sh.lt i s hs).1; omega, fun k hk => SV.lt_mono (by omega) _ ((sh.lt i s hs).2 k hk)⟩⟩, hr, fun i _ s hs => hs, .inl ⟨rfl, rfl⟩, rfl⟩
  · have hsz : (ti 5).sz = 1 := by simp only [go_sem]
    rw [hsz] at hcell hflat
    obtain ⟨ρ', e1, e2, s', ro⟩ := sat_cons sh hr b off (len * 1) c hb hcell
    refine ⟨ρ', _, .sl n 0 len cap, len, e1, s', ro, fun i hi s hs => ?_, .inr ⟨n, cap, ⟨len * 1, fun j => svOf (c j), false, none⟩, rfl, by omega, by simp only [hget, if_true], Nat.le_of_eq (Nat.mul_one len).symm, fun k hk' => ?_⟩, ?_⟩
    · simp only [hget]; rw [if_neg (by omega)]; exact hs
    · have h1 := hflat k hk'
      simp only [flatC_succ, go_sem, flatK_int, Nat.zero_add, Nat.mul_one, Nat.add_zero] at h1
      obtain ⟨q, e, hq⟩ := h1
      exact ⟨q, by show svOf (c k) = _; rw [e]; rfl, wf_u8 hq⟩
    · simp only [den, e2, Nat.add_zero]
set_option maxRecDepth 100000 in
theorem bytes2_arg {H : Type} {enc : TypeId × Value → H} {W : World} {b0 : Nat} {v w : Value} {d e : DataW H} {ps qs : List MemPlace} {base : Nat} {sp : Nat → Bool} {hd : Bool}
    (hval : Value.okWide Tryz.prog W .any b0 22 v) (h : DataW.Trod enc Tryz.prog W base sp hd 22 v d ps)
    (hval' : Value.okWide Tryz.prog W .any b0 22 w) (h' : DataW.Trod enc Tryz.prog W base sp hd 22 w e qs) :
    ∃ (ρ : Rho) (hm : List (Nat × Seg)) (A B : SV) (la lb : Nat), SatH (cx0 W) ρ hm 2 W ∧ ByArg hm 2 A la ∧ ByArg hm 2 B lb ∧ den ρ A = v ∧ den ρ B = w := by
  obtain ⟨ρ1, h1, A, la, _, s1, r1, _, hA, eA⟩ := bytes_arg hval h (sat0 W fun _ => (0, 0)) (fun i s hs => by cases hs)
  obtain ⟨ρ2, h2, B, lb, e2, s2, r2, x2, hB, eB⟩ := bytes_arg hval' h' s1 r1
  exact ⟨ρ2, h2, A, B, la, lb, s2, hA.up (by omega) x2, hB, by rw [← eA]; exact (den_congr e2 A hA.lt).symm, eB⟩
end Go.Proofs.YtcjgpkhdlobbbaaGreat.V
