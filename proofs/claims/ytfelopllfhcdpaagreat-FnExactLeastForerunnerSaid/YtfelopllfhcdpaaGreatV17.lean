/- Rows that are filled. -/
import Derived.Test.YtfelopllfhcdpaaGreatV16
set_option linter.all false
namespace Go.Proofs.YtfelopllfhcdpaaGreat.V
/-! ### A row that is filled, place by place -/
theorem part_agg {C Z F : Nat → SV} {N q sz : Nat} (hF : ∀ j, j < sz → F j = C (q * sz + j)) (hN : (q + 1) * sz ≤ N) {z : Nat} (hz : z < N) :
    wrN N (fun z => if z < q * sz then C z else Z z) (q * sz) (.agg sz F) z = if z < (q + 1) * sz then C z else Z z := by
  have e : (q + 1) * sz = q * sz + sz := Nat.succ_mul q sz
  rw [wrN_agg]
  split
  · rename_i hc
    have hq : q * sz = 0 := hc.1
    rw [if_pos (by omega), hF z (by omega), hq, Nat.zero_add]
  · show (if q * sz ≤ z ∧ z < q * sz + sz then F (z - q * sz) else if z < q * sz then C z else Z z) = _
    by_cases h1 : q * sz ≤ z ∧ z < q * sz + sz
    · rw [if_pos h1, if_pos (by omega), hF _ (by omega), show q * sz + (z - q * sz) = z by omega]
    · rw [if_neg h1]
      by_cases h2 : z < q * sz
      · rw [if_pos h2, if_pos (by omega)]
      · rw [if_neg h2, if_neg (by omega)]
theorem part_upd {C Z : Nat → SV} {q : Nat} {v : SV} (hv : v = C q) (z : Nat) : upd (fun z => if z < q then C z else Z z) q v z = if z < q + 1 then C z else Z z := by
  unfold upd
  by_cases h1 : z = q
  · subst h1; rw [if_pos rfl, if_pos (by omega), hv]
  · rw [if_neg h1]
    show (if z < q then C z else Z z) = _
    by_cases h2 : z < q
    · rw [if_pos h2, if_pos (by omega)]
    · rw [if_neg h2, if_neg (by omega)]

/-! ### A state with one or two new segments, told by other names -/
theorem hok_cons {m i : Nat} {h0 : List (Nat × Seg)} {s : Seg} (hok : HOk m h0) (hi : i < m) (hs : ∀ k, k < s.n → (s.c k).flat) : HOk m ((i, s) :: h0) := by
  intro j t ht
  simp only [hget] at ht
  by_cases e : i = j
  · rw [if_pos e] at ht
    obtain rfl : s = t := by simpa using ht
    exact ⟨e ▸ hi, fun k hk => (hs k hk).below m⟩
  · rw [if_neg e] at ht
    exact hok j t ht
theorem hok_up {m m' : Nat} {h0 : List (Nat × Seg)} (hok : HOk m h0) (h : m ≤ m') : HOk m' h0 := fun i t hi => ⟨Nat.lt_of_lt_of_le (hok i t hi).1 h, fun k hk => SV.lt_mono h _ ((hok i t hi).2 k hk)⟩
section
variable {cx : Cx} {l l' : List (Nat × SV)} {h h0 : List (Nat × Seg)} {n : Nat} {s t : Seg}
theorem sig1_id {m a a' i : Nat} (hi : i < m) (ha : m ≤ a) : sig [(a, a')] i = i := by
  simp only [sig]; rw [if_neg (by omega)]
theorem sig2_id {m a b a' b' i : Nat} (hi : i < m) (ha : m ≤ a) (hb : m ≤ b) : sig [(a, a'), (b, b')] i = i := by
  simp only [sig]; rw [if_neg (by omega), if_neg (by omega)]
/-- A segment that shows all that another one tells. -/
def SegEq (s' s : Seg) : Prop := s.n ≤ s'.n ∧ (s.rw = true → s'.rw = true) ∧ (s.own = none ∨ s.own = s'.own) ∧ ∀ k, k < s.n → s'.c k = s.c k
theorem SegEq.rfl' {s : Seg} : SegEq s s := ⟨Nat.le_refl _, id, .inr rfl, fun _ _ => rfl⟩
theorem imp_one (m a' : Nat) (hn0 : cx.n0 ≤ m) (hok : HOk m h0) (hx : HExt m h0 h) (ha' : m ≤ a') (hs : hget h a' = some s) (fs : ∀ k, k < s.n → (s.c k).flat)
    (hl : impL l (sig [(m, a')]) (m + 1) l') : Imp cx l h n l' ((m, s) :: h0) (m + 1) := by
  refine Imp.of [(m, a')] (fun i hi => sig1_id (m := m) (by omega) (Nat.le_refl m)) (by omega) hl ?_ ?_
  · exact impH.cons (by omega) (by simp only [sig, if_true]; exact hs) (SegLe.flat (Nat.le_refl _) id (.inr rfl) fun k hk => ⟨rfl, fs k hk⟩)
      (impH.base hok (by omega) (fun i hi => sig1_id hi (Nat.le_refl m)) hx)
  · intro i j u v hi hj hij
    have bound : ∀ i u, hget ((m, s) :: h0) i = some u → i = m ∨ i < m := fun i u hu => by
      simp only [hget] at hu
      by_cases e : m = i
      · exact .inl e.symm
      · rw [if_neg e] at hu; exact .inr (hok i u hu).1
    rcases bound i u hi with e1 | e1 <;> rcases bound j v hj with e2 | e2
    · omega
    · subst e1; rw [sig1_id e2 (Nat.le_refl _)]; simp only [sig, if_true]; omega
    · subst e2; rw [sig1_id e1 (Nat.le_refl _)]; simp only [sig, if_true]; omega
    · rw [sig1_id e1 (Nat.le_refl _), sig1_id e2 (Nat.le_refl _)]; exact hij
theorem imp_two (m a' b' : Nat) (hn0 : cx.n0 ≤ m) (hok : HOk m h0) (hx : HExt m h0 h) (ha' : m ≤ a') (hb' : m ≤ b') (hab : a' ≠ b') (hs : hget h a' = some s) (ht : hget h b' = some t) (fs : ∀ k, k < s.n → (s.c k).flat) (ft : ∀ k, k < t.n → (t.c k).flat)
    (hl : impL l (sig [(m, a'), (m + 1, b')]) (m + 2) l') : Imp cx l h n l' ((m + 1, t) :: (m, s) :: h0) (m + 2) := by
  have s1 : sig [(m, a'), (m + 1, b')] m = a' := by simp [sig]
  have s2 : sig [(m, a'), (m + 1, b')] (m + 1) = b' := by simp [sig]
  have s3 : ∀ i, i < m → sig [(m, a'), (m + 1, b')] i = i := fun i hi => sig2_id hi (Nat.le_refl m) (by omega)
  refine Imp.of [(m, a'), (m + 1, b')] (fun i hi => s3 i (by omega)) (by omega) hl ?_ ?_
  · exact impH.cons (by omega) (by rw [s2]; exact ht) (SegLe.flat (Nat.le_refl _) id (.inr rfl) fun k hk => ⟨rfl, ft k hk⟩)
      (impH.cons (by omega) (by rw [s1]; exact hs) (SegLe.flat (Nat.le_refl _) id (.inr rfl) fun k hk => ⟨rfl, fs k hk⟩)
        (impH.base hok (by omega) s3 hx))
  · intro i j u v hi hj hij
    have bound : ∀ i u, hget ((m + 1, t) :: (m, s) :: h0) i = some u → i = m + 1 ∨ i = m ∨ i < m := fun i u hu => by
      simp only [hget] at hu
      by_cases e : m + 1 = i
      · exact .inl e.symm
      · rw [if_neg e] at hu
        by_cases e' : m = i
        · exact .inr (.inl e'.symm)
        · rw [if_neg e'] at hu; exact .inr (.inr (hok i u hu).1)
    rcases bound i u hi with rfl | rfl | e1 <;> rcases bound j v hj with rfl | rfl | e2
    · omega
    · rw [s1, s2]; exact hab.symm
    · rw [s2, s3 _ e2]; omega
    · rw [s1, s2]; exact hab
    · omega
    · rw [s1, s3 _ e2]; omega
    · rw [s2, s3 _ e1]; omega
    · rw [s1, s3 _ e1]; omega
    · rw [s3 _ e1, s3 _ e2]; exact hij
@[go_sem high] theorem lt_fn2 {f m : Nat} {G : Nat → SV} {a b : SV} : (SV.fn f 0 G 2 (cl [a, b])).lt m = (a.lt m ∧ b.lt m) := by
  refine propext ⟨fun hh => ⟨hh.2 0 (by omega), hh.2 1 (by omega)⟩, fun hh => ⟨fun j hj => absurd hj (Nat.not_lt_zero j), fun j hj => ?_⟩⟩
  rcases (by omega : j = 0 ∨ j = 1) with rfl | rfl
  · exact hh.1
  · exact hh.2
@[go_sem high] theorem lt_fn1 {f m : Nat} {G : Nat → SV} {a : SV} : (SV.fn f 0 G 1 (cl [a])).lt m = a.lt m := by
  refine propext ⟨fun hh => hh.2 0 (by omega), fun hh => ⟨fun j hj => absurd hj (Nat.not_lt_zero j), fun j hj => ?_⟩⟩
  obtain rfl : j = 0 := by omega
  exact hh
@[go_sem high] theorem lt_fn3 {f m : Nat} {G : Nat → SV} {a b c : SV} : (SV.fn f 0 G 3 (cl [a, b, c])).lt m = (a.lt m ∧ b.lt m ∧ c.lt m) := by
  refine propext ⟨fun hh => ⟨hh.2 0 (by omega), hh.2 1 (by omega), hh.2 2 (by omega)⟩, fun hh => ⟨fun j hj => absurd hj (Nat.not_lt_zero j), fun j hj => ?_⟩⟩
  rcases (by omega : j = 0 ∨ j = 1 ∨ j = 2) with rfl | rfl | rfl
  · exact hh.1
  · exact hh.2.1
  · exact hh.2.2
theorem ren_cl {σ : Nat → Nat} : ∀ (xs : List SV), (fun j => ren σ (cl xs j)) = cl (xs.map (ren σ))
  | [] => funext fun j => by first | rfl | (cases j <;> rfl)
  | x :: xs => funext fun j => by
    cases j with
    | zero => rfl
    | succ j => exact congrFun (ren_cl xs) j
@[go_sem high] theorem ren_fn1 {σ : Nat → Nat} {f : Nat} {a : SV} : ren σ (.fn f 0 (cl []) 1 (cl [a])) = .fn f 0 (cl []) 1 (cl [ren σ a]) := by
  rw [ren_fn, ren_cl, ren_cl]; rfl
@[go_sem high] theorem ren_fn2 {σ : Nat → Nat} {f : Nat} {a b : SV} : ren σ (.fn f 0 (cl []) 2 (cl [a, b])) = .fn f 0 (cl []) 2 (cl [ren σ a, ren σ b]) := by
  rw [ren_fn, ren_cl, ren_cl]; rfl
@[go_sem high] theorem ren_fn3 {σ : Nat → Nat} {f : Nat} {a b c : SV} : ren σ (.fn f 0 (cl []) 3 (cl [a, b, c])) = .fn f 0 (cl []) 3 (cl [ren σ a, ren σ b, ren σ c]) := by
  rw [ren_fn, ren_cl, ren_cl]; rfl
theorem HExt.tr {m m' : Nat} {a b c : List (Nat × Seg)} (h1 : HExt m a b) (h2 : HExt m' b c) (hm : m ≤ m') : HExt m a c := fun i hi t ht => h2 i (by omega) t (h1 i hi t ht)
theorem CallE.hokE {cx : Cx} {h : List (Nat × Seg)} {n : Nat} {P : Program} {f : Nat} {args : List SV} {K : HK} (hc : CallE P cx f args h n fun r h' n' => HOk n' h' → K r h' n') : CallE P cx f args h n K := by
  obtain ⟨h1, h2, h3⟩ := hc
  refine ⟨h1, h2, fun ρ w sh hl => (h3 ρ w sh hl).mono fun e w' he => ?_⟩
  obtain ⟨ρ', r', h', n', g1, g2, g3, g4, g5, g6⟩ := he
  exact ⟨ρ', r', h', n', g1, g2, g3, g4, g5, g6 g5.lt⟩
theorem imp_oneE {s' : Seg} (m a' : Nat) (hn0 : cx.n0 ≤ m) (hok : HOk m h0) (hx : HExt m h0 h) (ha' : m ≤ a') (hs : hget h a' = some s') (es : SegEq s' s) (fs : ∀ k, k < s.n → (s.c k).flat)
    (hl : impL l (sig [(m, a')]) (m + 1) l') : Imp cx l h n l' ((m, s) :: h0) (m + 1) := by
  refine Imp.of [(m, a')] (fun i hi => sig1_id (m := m) (by omega) (Nat.le_refl m)) (by omega) hl ?_ ?_
  · exact impH.cons (by omega) (by simp only [sig, if_true]; exact hs) (SegLe.flat es.1 es.2.1 es.2.2.1 fun k hk => ⟨es.2.2.2 k hk, fs k hk⟩)
      (impH.base hok (by omega) (fun i hi => sig1_id hi (Nat.le_refl m)) hx)
  · intro i j u v hi hj hij
    have bound : ∀ i u, hget ((m, s) :: h0) i = some u → i = m ∨ i < m := fun i u hu => by
      simp only [hget] at hu
      by_cases e : m = i
      · exact .inl e.symm
      · rw [if_neg e] at hu; exact .inr (hok i u hu).1
    rcases bound i u hi with e1 | e1 <;> rcases bound j v hj with e2 | e2
    · omega
    · subst e1; rw [sig1_id e2 (Nat.le_refl _)]; simp only [sig, if_true]; omega
    · subst e2; rw [sig1_id e1 (Nat.le_refl _)]; simp only [sig, if_true]; omega
    · rw [sig1_id e1 (Nat.le_refl _), sig1_id e2 (Nat.le_refl _)]; exact hij
theorem imp_twoE {s' t' : Seg} (m a' b' : Nat) (hn0 : cx.n0 ≤ m) (hok : HOk m h0) (hx : HExt m h0 h) (ha' : m ≤ a') (hb' : m ≤ b') (hab : a' ≠ b') (hs : hget h a' = some s') (ht : hget h b' = some t') (es : SegEq s' s) (et : SegEq t' t) (fs : ∀ k, k < s.n → (s.c k).flat) (ft : ∀ k, k < t.n → (t.c k).flat)
    (hl : impL l (sig [(m, a'), (m + 1, b')]) (m + 2) l') : Imp cx l h n l' ((m + 1, t) :: (m, s) :: h0) (m + 2) := by
  have s1 : sig [(m, a'), (m + 1, b')] m = a' := by simp [sig]
  have s2 : sig [(m, a'), (m + 1, b')] (m + 1) = b' := by simp [sig]
  have s3 : ∀ i, i < m → sig [(m, a'), (m + 1, b')] i = i := fun i hi => sig2_id hi (Nat.le_refl m) (by omega)
  refine Imp.of [(m, a'), (m + 1, b')] (fun i hi => s3 i (by omega)) (by omega) hl ?_ ?_
  · exact impH.cons (by omega) (by rw [s2]; exact ht) (SegLe.flat et.1 et.2.1 et.2.2.1 fun k hk => ⟨et.2.2.2 k hk, ft k hk⟩)
      (impH.cons (by omega) (by rw [s1]; exact hs) (SegLe.flat es.1 es.2.1 es.2.2.1 fun k hk => ⟨es.2.2.2 k hk, fs k hk⟩)
        (impH.base hok (by omega) s3 hx))
  · intro i j u v hi hj hij
    have bound : ∀ i u, hget ((m + 1, t) :: (m, s) :: h0) i = some u → i = m + 1 ∨ i = m ∨ i < m := fun i u hu => by
      simp only [hget] at hu
      by_cases e : m + 1 = i
      · exact .inl e.symm
      · rw [if_neg e] at hu
        by_cases e' : m = i
        · exact .inr (.inl e'.symm)
        · rw [if_neg e'] at hu; exact .inr (.inr (hok i u hu).1)
    rcases bound i u hi with rfl | rfl | e1 <;> rcases bound j v hj with rfl | rfl | e2
    · omega
    · rw [s1, s2]; exact hab.symm
    · rw [s2, s3 _ e2]; omega
    · rw [s1, s2]; exact hab
    · omega
    · rw [s1, s3 _ e2]; omega
    · rw [s2, s3 _ e1]; omega
    · rw [s1, s3 _ e1]; omega
    · rw [s3 _ e1, s3 _ e2]; exact hij
end
end Go.Proofs.YtfelopllfhcdpaaGreat.V
