/- Part 5 of the texts that this proof stands on: a symbolic walk over the program, what its functions and the reference's do, plain laws. -/
import Derived.Test.YtckefhnobflhcaaZsed
import Derived.Test.YtckefhnobflhcaaV20
import Derived.Test.YtckefhnobflhcaaSh
import Derived.Test.YtckefhnobflhcaaTi
import Derived.Test.YtckefhnobflhcaaZsea
import Derived.Test.YtckefhnobflhcaaZsec
import Derived.Test.YtckefhnobflhcaaZseb
set_option linter.all false

/- strings.Join and strings.Builder: contracts (out of the kit's shelf), and a quiet call walked in a frame of its own. -/
namespace Go.Proofs.Ytckefhnobflhcaa.V
/-- A string, by its bytes. -/
def S8 (b : List UInt8) : ByteArray := ⟨b.toArray⟩
@[go_sem] theorem S8_add (a b : List UInt8) : S8 a ++ S8 b = S8 (a ++ b) := by
  apply ByteArray.ext
  simp [S8]
@[go_sem] theorem S8_size (a : List UInt8) : (S8 a).size = a.length := by simp [S8, ByteArray.size]
theorem S8_list (a : List UInt8) : (S8 a).data.toList = a := by simp [S8]
/-- A memory that may only be read, of which no row is one's own. -/
def roS (s : Seg) : Seg := ⟨s.n, s.c, false, none⟩
def ro (h : List (Nat × Seg)) : List (Nat × Seg) := h.map fun p => (p.1, roS p.2)
theorem hget_ro (h : List (Nat × Seg)) (i : Nat) : hget (ro h) i = (hget h i).map roS := by
  induction h with
  | nil => rfl
  | cons p h ih =>
    obtain ⟨k, s⟩ := p
    show (if k = i then some (roS s) else hget (ro h) i) = _
    simp only [hget]
    by_cases e : k = i
    · rw [if_pos e, if_pos e]; rfl
    · rw [if_neg e, if_neg e]; exact ih
theorem ro_some {h : List (Nat × Seg)} {i : Nat} {s : Seg} (hs : hget h i = some s) : hget (ro h) i = some (roS s) := by rw [hget_ro, hs]; rfl
/-- A quiet call may be walked in a frame of its own. -/
theorem callQ_fresh {P : Program} {cx : Cx} {f : Nat} {args : List SV} {h : List (Nat × Seg)} {n : Nat} {r : SV} (hrl : r.lt n)
    (hc : ∀ w0, CallE P ⟨w0, Noth, 0, n⟩ f args (ro h) n fun v _ _ => v = r) : CallQ P cx f args h n r := by
  have h0 := hc (⟨#[], fun _ => fun _ => 0, 0, default, default⟩ : World)
  refine ⟨h0.1, h0.2.1, hrl, fun ρ w sh hargs => ?_⟩
  have sub : ∀ i t, hget (ro h) i = some t → ∃ s, hget h i = some s ∧ t = roS s := fun i t ht => by
    rw [hget_ro] at ht
    cases hs : hget h i with
    | none => rw [hs] at ht; cases ht
    | some s => rw [hs] at ht; cases ht; exact ⟨s, rfl, rfl⟩
  have sh' : SatH ⟨w, Noth, 0, n⟩ ρ (ro h) n w := by
    refine ⟨Keeps.refl _ _, fun i t ht => ?_, fun i j x y hij hx hy hw => ?_, fun i t ht => ?_⟩
    · obtain ⟨s, hs, rfl⟩ := sub i t ht
      have := sh.seg i s hs
      exact ⟨this.blk, this.cells, (fun e => by cases e), (fun _ _ e => by cases e)⟩
    · obtain ⟨s, hs, rfl⟩ := sub i x hx
      rcases hw with e | e <;> cases e
    · obtain ⟨s, hs, rfl⟩ := sub i t ht
      exact sh.lt i s hs
  refine ((hc w).2.2 ρ w sh' hargs).mono fun e w' he => ?_
  obtain ⟨ρ', v, h', n', h1, h2, rfl, h4, h5, rfl⟩ := he
  exact ⟨by rw [den_congr h1 _ hrl], sh.keep h5.keeps⟩
/-- Strings in a row. -/
def strsC (L : List (List UInt8)) : Nat → SV := fun k => .str (S8 (L.getD k []))
section
variable (cx : Cx) (h : List (Nat × Seg)) (n : Nat)
theorem join_Q (i cap : Nat) (L : List (List UInt8)) (sep : List UInt8) (s : Seg) (hs : hget h i = some s) (hi : i < n) (hn : L.length ≤ s.n) (hc : ∀ k, k < L.length → s.c k = strsC L k) (hcap : L.length ≤ cap) (h9 : L.length ≤ 1000000)
    (hl : (Lib.join L sep).length ≤ 100000000) : CallQ Try.prog cx 32 [.sl i 0 L.length cap, .str (S8 sep)] h n (.str (S8 (Lib.join L sep))) := by
  refine ⟨Try.call32, by simp only [go_sem, and_self], trivial, fun ρ w sh _ => ?_⟩
  have hseg := sh.seg i s hs
  have e1 : (L.map S8).map (·.data.toList) = L := by
    rw [List.map_map]
    have : ((fun x : ByteArray => x.data.toList) ∘ S8) = id := by funext a; exact S8_list a
    rw [this, List.map_id]
  have := Try.strings_Join (ρ i).1 (ρ i).2 cap (L.map S8) (S8 sep) w (fun j x hx => by
    rw [List.getElem?_map] at hx
    cases hL : L[j]? with
    | none => rw [hL] at hx; cases hx
    | some b =>
      rw [hL] at hx
      cases hx
      have hj : j < L.length := (List.getElem?_eq_some_iff.1 hL).1
      have := hseg.cells j (by omega)
      rw [hc j hj] at this
      rw [this]
      show some (Value.string (S8 (L.getD j []))) = _
      rw [List.getD_eq_getElem?_getD, hL]; rfl) hseg.blk (by rw [List.length_map]; omega) (by rw [List.length_map]; exact hcap) (by rw [e1, S8_list]; omega)
  rw [e1, S8_list, List.length_map] at this
  refine this.mono fun e w' he => ⟨he.1, sh.keep (Keeps.of_below he.2)⟩
/-- What lies in the memory of a builder that holds some bytes. -/
def Bld (h : List (Nat × Seg)) (lo n i : Nat) (b : List UInt8) : Prop :=
  ∃ p V, hget h i = some ⟨2, cl [p, V], true, some (66, 2)⟩ ∧ (p = .raw (.pointer none) ∨ p = .ptr i 0) ∧ lo ≤ i ∧ i < n ∧
    ((V = .nils ∧ b = []) ∨ ∃ j cap sg, V = .sl j 0 b.length cap ∧ lo ≤ j ∧ j ≠ i ∧ j < n ∧ hget h j = some sg ∧ sg.own = some (5, cap) ∧ sg.rw = true ∧ b.length ≤ cap ∧ cap ≤ maxLen ∧ 0 < cap ∧ b.length ≤ sg.n ∧ ∀ k, k < b.length → sg.c k = bytesC b k)
theorem copyCheck_E (i : Nat) (p V : SV) (hs : hget h i = some ⟨2, cl [p, V], true, some (66, 2)⟩) (hp : p = .raw (.pointer none) ∨ p = .ptr i 0) (hi : i < n) (K : HK)
    (hK : K (.tup 0 (cl [])) (hset h i ⟨2, cl [.ptr i 0, V], true, some (66, 2)⟩) n) : CallE Try.prog cx 47 [.ptr i 0] h n K := by
  refine ⟨Try.call47, by simp only [go_sem, and_self], fun ρ w sh _ => ?_⟩
  have hseg := sh.seg i _ hs
  obtain ⟨hz, hbase, cur, hheap, hcur⟩ := hseg.own _ _ rfl
  have hc0 : w.cell? ⟨(ρ i).1, 0, none⟩ = some (den ρ p) := by
    have := hseg.cells 0 (by show 0 < 2; omega)
    rw [hz] at this
    exact this
  have hf0 : w.frozen? ⟨(ρ i).1, 0, none⟩ = false := by
    have := (hseg.rwf rfl 0 (by show 0 < 2; omega)).1
    rw [hz] at this
    exact this
  have hsh : w.shape? (ρ i).1 = some (66, 2) := by simp [World.shape?, hheap, hcur]
  have ea : [SV.ptr i 0].map (den ρ) = [.pointer (some ⟨(ρ i).1, 0, none⟩)] := by simp [den, hz]
  rw [ea]
  rcases hp with rfl | rfl
  · refine (Any.Builder_copyCheck_fresh Try.lay156_240 Try.Builder_Extra_156.toX72 (ρ i).1 w hc0 hsh hf0).mono fun e w' he => ?_
    obtain ⟨rfl, rfl⟩ := he
    obtain ⟨_, _, h3⟩ := sh.set1 hs rfl (o := 0) (by show 0 < 2; omega) (v := .ptr i 0) hi
    rw [hz] at h3
    have eu : upd (cl [SV.raw (.pointer none), V]) 0 (.ptr i 0) = cl [.ptr i 0, V] := by
      funext k
      match k with
      | 0 => rfl
      | 1 => rfl
      | k + 2 => rfl
    simp only [eu] at h3
    refine ⟨ρ, .tup 0 (cl []), _, n, fun _ _ => rfl, Nat.le_refl _, rfl, fun j hj => absurd hj (Nat.not_lt_zero j), ?_, hK⟩
    have ed : den ρ (.ptr i 0) = .pointer (some ⟨(ρ i).1, 0, none⟩) := by simp [den, hz]
    rw [ed] at h3
    exact h3
  · have ed : den ρ (.ptr i 0) = .pointer (some ⟨(ρ i).1, 0, none⟩) := by simp [den, hz]
    rw [ed] at hc0
    refine (Any.Builder_copyCheck_used Try.lay156_240 Try.Builder_Extra_156.toX72 (ρ i).1 w hc0).mono fun e w' he => ?_
    obtain ⟨rfl, rfl⟩ := he
    rw [hset_self hs] at hK
    exact ⟨ρ, .tup 0 (cl []), h, n, fun _ _ => rfl, Nat.le_refl _, rfl, fun j hj => absurd hj (Nat.not_lt_zero j), sh, hK⟩
theorem bldString_E (lo i : Nat) (b : List UInt8) (hB : Bld h lo n i b) (hb : b ≠ []) (K : HK) (hK : K (.str (S8 b)) [] n) : CallE Try.prog cx 33 [.ptr i 0] h n K := by
  obtain ⟨p, V, hs, hp, h1, h2, hV⟩ := hB
  rcases hV with ⟨_, e⟩ | ⟨j, cap, sg, rfl, j1, j2, j3, j4, j5, j6, j7, j8, j9, j10, j11⟩
  · exact absurd e hb
  refine ⟨Try.call33, by simp only [go_sem, and_self], fun ρ w sh _ => ?_⟩
  have hseg := sh.seg i _ hs
  obtain ⟨hz, hbase, cur, hheap, hcur⟩ := hseg.own _ _ rfl
  have hsegj := sh.seg j _ j4
  obtain ⟨hzj, hbasej, curj, hheapj, hcurj⟩ := hsegj.own _ _ j5
  have ea : [SV.ptr i 0].map (den ρ) = [.pointer (some ⟨(ρ i).1, 0, none⟩)] := by simp [den, hz]
  rw [ea]
  have hcells : cur = #[den ρ p, .slice (some ⟨(ρ j).1, 0, none⟩) b.length cap] := by
    have c0 := hseg.cells 0 (by show 0 < 2; omega)
    have c1 := hseg.cells 1 (by show 1 < 2; omega)
    simp only [World.cell?, hheap, hz, Nat.zero_add] at c0 c1
    have c0 : cur[0]? = some (den ρ p) := by simpa [cl] using c0
    have c1 : cur[1]? = some (den ρ (.sl j 0 b.length cap)) := by simpa [cl] using c1
    apply Array.ext_getElem?
    intro k
    match k with
    | 0 => rw [c0]; rfl
    | 1 => rw [c1]; simp [den, hzj]
    | k + 2 => rw [Array.getElem?_eq_none (by omega), Array.getElem?_eq_none (by simp)]
  have hdisj : (ρ i).1 ≠ (ρ j).1 := by
    rcases sh.dis i j _ _ (Ne.symm j2) hs j4 (.inl rfl) with e | ⟨e, _⟩
    · exact e
    · cases e
  have hIs : Lib.IsBuilder 66 5 cx.w0.heap.size (ρ i).1 (Lib.byteCells b) w := by
    have hat : Lib.BuilderAt 66 5 cx.w0.heap.size (ρ i).1 (den ρ p) (Lib.byteCells b) w := by
      refine ⟨hbase, .slice (some ⟨(ρ j).1, 0, none⟩) b.length cap, by rw [hheap, hcells], ⟨by rw [Lib.byteCells_length, Nat.mul_one], .inr ⟨(ρ j).1, cap, curj, by rw [Lib.byteCells_length], hbasej, hheapj, by rw [Lib.byteCells_length]; exact j7, j8, by rw [hcurj, Nat.mul_one], ?_⟩⟩, by simp [Value.ownBlock]; exact Ne.symm hdisj⟩
      rw [Lib.byteCells_length, Nat.mul_one]
      apply List.ext_getElem?
      intro k
      by_cases hk : k < b.length
      · rw [List.getElem?_take_of_lt hk, Array.getElem?_toList]
        have := hsegj.cells k (by omega)
        simp only [World.cell?, hheapj, hzj, Nat.zero_add] at this
        have h3 : curj[k]? = some (den ρ (bytesC b k)) := by rw [← j11 k hk]; simpa using this
        rw [h3]
        unfold Lib.byteCells bytesC
        rw [List.getElem?_map, List.getElem?_eq_getElem hk, List.getD_eq_getElem?_getD, List.getElem?_eq_getElem hk]
        rfl
      · rw [List.getElem?_eq_none (by simp; omega), List.getElem?_eq_none (by rw [Lib.byteCells_length]; omega)]
    rcases hp with rfl | rfl
    · exact .inl hat
    · have ed : den ρ (.ptr i 0) = .pointer (some ⟨(ρ i).1, 0, none⟩) := by simp [den, hz]
      rw [ed] at hat
      exact .inr hat
  refine (Try.Builder_String cx.w0.heap.size (ρ i).1 b w hIs hb).mono fun e w' he => ?_
  obtain ⟨rfl, hbel⟩ := he
  refine ⟨ρ, .str (S8 b), [], n, fun _ _ => rfl, Nat.le_refl _, rfl, trivial, ⟨⟨hbel.os.trans sh.keeps.os, hbel.tape.trans sh.keeps.tape, hbel.output.trans sh.keeps.output, Nat.le_trans sh.keeps.size hbel.size, fun x hx => ?_⟩, fun i t ht => (by cases ht), fun i j x y _ hx => (by cases hx), fun i t ht => (by cases ht)⟩, hK⟩
  exact (sh.keeps.blk x hx).trans (W' := cx.W x) (ObjK.of_eq (hbel.block x hx)) fun _ h => h
end
end Go.Proofs.Ytckefhnobflhcaa.V

/- WriteString: the walk. -/
namespace Go.Proofs.Ytckefhnobflhcaa.V
@[go_sem] theorem ofV_nilIface : ofV .nilIface = .raw .nilIface := rfl
theorem u8_U8 : U8 (ti 5) := ⟨rfl, rfl, rfl, rfl⟩
section
variable (cx : Cx) (h : List (Nat × Seg)) (n : Nat)
theorem writeStr_E (lo i : Nat) (b s : List UInt8) (hB : Bld h lo n i b) (h0 : 0 < s.length) (h9 : b.length + s.length ≤ 1000000000) (K : HK)
    (hK : ∀ h' n', n ≤ n' → HExt lo h h' → HOk n' h' → Bld h' lo n' i (b ++ s) → K (.tup 2 (cl [.int .i64 s.length, .raw .nilIface])) h' n') :
    CallE Try.prog cx 31 [.ptr i 0, .str (S8 s)] h n K := by
  obtain ⟨p, V, hs, hp, h1, h2, hV⟩ := hB
  refine CallE.hokE ?_
  refine callE_of_T (P := Try.prog) hti (nt := 19) (rs := [.tmp 4, .tmp 5]) rfl rfl Try.call31 Try.func31 rfl _ (by simp only [go_sem, and_self]) (Nat.le_of_ble_eq_true rfl) _ fun hok => ?_
  simp only [go_sem, Nat.reduceLT]
  refine callA_false (copyCheck_E _ _ _ i p V hs hp h2 _ ?_)
  have hs1 := hget_hset_self hs ⟨2, cl [.ptr i 0, V], true, some (66, 2)⟩
  have ok1 : HOk n (hset h i ⟨2, cl [.ptr i 0, V], true, some (66, 2)⟩) := HOk.hset hok fun k hk => by
    have hk : k < 2 := hk
    match k with
    | 0 => exact h2
    | 1 => exact (hok i _ hs).2 1 (by show 1 < 2; omega)
    | k + 2 => omega
  rcases hV with ⟨rfl, rfl⟩ | ⟨j, cap, sg, rfl, j1, j2, j3, j4, j5, j6, j7, j8, j9, j10, j11⟩
  · have hsz : (S8 s).size = s.length := S8_size s
    simp only [go_sem, Nat.reduceLT, reduceCtorEq, hs1, h2]
    refine ⟨rfl, strNil_sem hti (e := 5) (s := S8 s) rfl (by simp [dok]) rfl rfl u8_U8 rfl rfl (by omega) (by omega) fun cap c1 c2 => ?_⟩
    rw [hsz] at c1
    rw [S8_list, hsz]
    have hmi : (n == i) = false := by simp; omega
    have hsi : hget ((n, ⟨s.length, bytesC s, true, some (5, cap)⟩) :: hset h i ⟨2, cl [.ptr i 0, .nils], true, some (66, 2)⟩) i = some ⟨2, cl [.ptr i 0, .nils], true, some (66, 2)⟩ := by simp only [hget]; rw [if_neg (by omega)]; exact hs1
    have hli : i < n + 1 := by omega
    simp only [go_sem, Nat.reduceLT, Nat.reduceEqDiff, reduceIte, reduceCtorEq, hsi, hli]
    refine fun ok' => hK _ (n + 1) (by omega) (fun z hz t ht => ?_) ok' ?_
    · rw [hget_hset, if_neg (by omega)]
      simp only [hget]
      rw [if_neg (by omega), hget_hset, if_neg (by omega)]
      exact ht
    · rw [List.nil_append]
      refine ⟨.ptr i 0, .sl n 0 s.length cap, hget_hset_self hsi _, .inr rfl, h1, by omega, .inr ⟨n, cap, ⟨s.length, bytesC s, true, some (5, cap)⟩, rfl, by omega, by omega, by omega, ?_, rfl, rfl, c1, c2, by omega, Nat.le_refl _, fun _ _ => rfl⟩⟩
      rw [hget_hset, if_neg (by omega)]
      exact hget_hit _ _ _
  · have hsz : (S8 s).size = s.length := S8_size s
    have hj1 : hget (hset h i ⟨2, cl [.ptr i 0, .sl j 0 b.length cap], true, some (66, 2)⟩) j = some sg := by rw [hget_hset, if_neg (Ne.symm j2)]; exact j4
    simp only [go_sem, Nat.reduceLT, reduceCtorEq, hs1, h2]
    refine ⟨rfl, strOwn_sem hti (e := 5) (s := S8 s) (b := b) (sg := sg) rfl (by simp [dok]) rfl rfl u8_U8 rfl rfl (by omega) hj1 j5 j7 j8 j9 j10 rfl j11 fun cap' c1 c2 => ?_⟩
    rw [hsz] at c1
    rw [S8_list, hsz]
    have hsi : hget ((n, ⟨b.length + s.length, bytesC (b ++ s), true, some (5, cap')⟩) :: hdel (hset h i ⟨2, cl [.ptr i 0, .sl j 0 b.length cap], true, some (66, 2)⟩) j) i = some ⟨2, cl [.ptr i 0, .sl j 0 b.length cap], true, some (66, 2)⟩ := by simp only [hget]; rw [if_neg (by omega), hget_hdel, if_neg j2]; exact hs1
    have hli : i < n + 1 := by omega
    simp only [go_sem, Nat.reduceLT, Nat.reduceEqDiff, reduceIte, reduceCtorEq, hsi, hli]
    refine fun ok' => hK _ (n + 1) (by omega) (fun z hz t ht => ?_) ok' ?_
    · rw [hget_hset, if_neg (by omega)]
      simp only [hget]
      rw [if_neg (by omega), hget_hdel, if_neg (by omega), hget_hset, if_neg (by omega)]
      exact ht
    · refine ⟨.ptr i 0, .sl n 0 (b.length + s.length) cap', hget_hset_self hsi _, .inr rfl, h1, by omega, .inr ⟨n, cap', ⟨b.length + s.length, bytesC (b ++ s), true, some (5, cap')⟩, by rw [List.length_append], by omega, by omega, by omega, ?_, rfl, rfl, by rw [List.length_append]; exact c1, c2, by omega, by rw [List.length_append]; exact Nat.le_refl _, fun _ _ => rfl⟩⟩
      rw [hget_hset, if_neg (by omega)]
      exact hget_hit _ _ _
end
end Go.Proofs.Ytckefhnobflhcaa.V

/- The lines of a sheet's text: the walk. -/
namespace Go.Proofs.Ytckefhnobflhcaa.V
def rowL (W : Nat) (sep : List UInt8) (wd : Nat → Nat → List UInt8) (y : Nat) : List UInt8 := Lib.join ((List.range W).map fun x => wd x y) sep
/-- A text with a line for each row. -/
def linesK (W : Nat) (sep : List UInt8) (wd : Nat → Nat → List UInt8) : Nat → List UInt8
  | 0 => []
  | k + 1 => linesK W sep wd k ++ (rowL W sep wd k ++ [10])
theorem joinTail_le (sep : List UInt8) (m : Nat) : ∀ (L : List (List UInt8)), (∀ a ∈ L, a.length ≤ m) → (Lib.joinTail sep L).length ≤ L.length * (m + sep.length)
  | [], _ => by simp [Lib.joinTail]
  | a :: L, h => by
    have ih := joinTail_le sep m L fun b hb => h b (List.mem_cons_of_mem _ hb)
    have h1 := h a (List.mem_cons_self ..)
    have e : Lib.joinTail sep (a :: L) = (sep ++ a) ++ Lib.joinTail sep L := by simp [Lib.joinTail]
    rw [e, List.length_append, List.length_append, List.length_cons, Nat.add_mul]
    omega
theorem join_le (sep : List UInt8) (m : Nat) (L : List (List UInt8)) (h : ∀ a ∈ L, a.length ≤ m) : (Lib.join L sep).length ≤ L.length * (m + sep.length) := by
  cases L with
  | nil => simp [Lib.join_nil]
  | cons a L =>
    have ih := joinTail_le sep m L fun b hb => h b (List.mem_cons_of_mem _ hb)
    have h1 := h a (List.mem_cons_self ..)
    rw [Lib.join_cons, List.length_append, List.length_cons, Nat.add_mul]
    omega
theorem rowL_le {W : Nat} {sep : List UInt8} {wd : Nat → Nat → List UInt8} (hs : sep.length ≤ 10) (hw : ∀ x y, (wd x y).length ≤ 1000) (hW : W ≤ 8) (y : Nat) : (rowL W sep wd y).length ≤ 8080 := by
  unfold rowL
  have := join_le sep 1000 ((List.range W).map fun x => wd x y) (fun a ha => by
    obtain ⟨x, _, rfl⟩ := List.mem_map.1 ha
    exact hw x y)
  rw [List.length_map, List.length_range] at this
  have h2 : W * (1000 + sep.length) ≤ 8 * 1010 := Nat.mul_le_mul hW (by omega)
  omega
theorem linesK_le {W : Nat} {sep : List UInt8} {wd : Nat → Nat → List UInt8} (hs : sep.length ≤ 10) (hw : ∀ x y, (wd x y).length ≤ 1000) (hW : W ≤ 8) : ∀ k, (linesK W sep wd k).length ≤ 9000 * k
  | 0 => by simp [linesK]
  | k + 1 => by
    have ih := linesK_le hs hw hW k
    have := rowL_le hs hw hW k
    rw [linesK, List.length_append, List.length_append, List.length_singleton]
    omega
/-- A list of strings to which one may append. -/
def StrO (h : List (Nat × Seg)) (lo n : Nat) (V : SV) (L : List (List UInt8)) : Prop :=
  ∃ j cap s, V = .sl j 0 L.length cap ∧ lo ≤ j ∧ j < n ∧ hget h j = some s ∧ s.own = some (9, cap) ∧ s.rw = true ∧ s.n = L.length ∧ L.length ≤ cap ∧ cap ≤ maxLen ∧ ∀ k, k < L.length → s.c k = strsC L k
theorem strApp1 {h hq : List (Nat × Seg)} {n nq jv cap : Nat} {A : List (List UInt8)} {a : List UInt8} {sc c1 : Nat → SV} {w : Option (Nat × Nat)} (I1 : n ≤ nq) (I2 : HOk nq hq) (I3 : HExt n h hq) (v1 : n ≤ jv) (c10 : c1 0 = .str (S8 a))
    (v9 : ∀ k, k < A.length → sc k = strsC A k) (m1 : A.length + 1 ≤ cap) (m2 : cap ≤ maxLen) :
    HOk (nq + 2) ((nq + 1, ⟨A.length + 1, both A.length sc (news c1 0), true, some (9, cap)⟩) :: (nq, ⟨1, c1, true, w⟩) :: hdel hq jv) ∧
    HExt n h ((nq + 1, ⟨A.length + 1, both A.length sc (news c1 0), true, some (9, cap)⟩) :: (nq, ⟨1, c1, true, w⟩) :: hdel hq jv) ∧
    StrO ((nq + 1, ⟨A.length + 1, both A.length sc (news c1 0), true, some (9, cap)⟩) :: (nq, ⟨1, c1, true, w⟩) :: hdel hq jv) n (nq + 2) (.sl (nq + 1) 0 (A.length + 1) cap) (A ++ [a]) := by
  have hbo : ∀ k, k < A.length + 1 → both A.length sc (news c1 0) k = strsC (A ++ [a]) k := fun k hk => by
    unfold both news
    split
    · rename_i hk2
      rw [v9 k hk2]
      unfold strsC
      rw [List.getD_eq_getElem?_getD, List.getD_eq_getElem?_getD, List.getElem?_append_left hk2]
    · rename_i hk2
      have e : k = A.length := by omega
      subst e
      rw [Nat.sub_self, Nat.zero_add, c10]
      unfold strsC
      simp
  have okd : HOk nq (hdel hq jv) := fun i t hi => by
    rw [hget_hdel] at hi
    split at hi
    · cases hi
    · exact I2 i t hi
  refine ⟨fun i t hi => ?_, fun z hz t ht => ?_, nq + 1, cap, _, by rw [List.length_append]; rfl, by omega, by omega, hget_hit _ _ _, rfl, rfl, by rw [List.length_append]; rfl, by rw [List.length_append]; exact m1, m2, fun k hk => hbo k (by rw [List.length_append] at hk; exact hk)⟩
  · simp only [hget] at hi
    split at hi
    · rename_i e; cases hi
      refine ⟨by omega, fun k hk => ?_⟩
      show (both A.length sc (news c1 0) k).lt _
      rw [hbo k hk]; trivial
    · split at hi
      · rename_i e; cases hi
        refine ⟨by omega, fun k hk => ?_⟩
        have hk : k < 1 := hk
        have e : k = 0 := by omega
        subst e
        show (c1 0).lt _
        rw [c10]; trivial
      · exact ⟨by have := (okd i t hi).1; omega, fun k hk => SV.lt_mono (by omega) _ ((okd i t hi).2 k hk)⟩
  · simp only [hget]
    rw [if_neg (by omega), if_neg (by omega), hget_hdel, if_neg (by omega)]
    exact I3 z hz t ht
theorem Bld.ext {h h' : List (Nat × Seg)} {lo n n' i : Nat} {b : List UInt8} (hB : Bld h lo n i b) (hn : n ≤ n') (hx : HExt n h h') : Bld h' lo n' i b := by
  obtain ⟨p, V, hs, hp, h1, h2, hV⟩ := hB
  refine ⟨p, V, hx i h2 _ hs, hp, h1, by omega, ?_⟩
  rcases hV with e | ⟨j, cap, sg, e, j1, j2, j3, j4, j5⟩
  · exact .inl e
  · exact .inr ⟨j, cap, sg, e, j1, j2, by omega, hx j j3 _ j4, j5⟩
section
variable (cx : Cx) (h : List (Nat × Seg)) (n : Nat)
set_option maxHeartbeats 1600000 in
theorem lines_Q (j o : Nat) (sg : Seg) (W H : Nat) (sep : List UInt8) (f a b : Nat) (G F : Nat → SV) (wd : Nat → Nat → List UInt8)
    (hs : hget h j = some sg) (hj : j < n) (ho : o + 2 ≤ sg.n) (hw : sg.c o = .int .i8 W) (hh : sg.c (o + 1) = .int .i8 H) (w1 : 1 ≤ W) (hW8 : W ≤ 8) (h1 : 1 ≤ H) (h8 : H ≤ 8) (hsep : sep.length ≤ 10) (hwd : ∀ x y, (wd x y).length ≤ 1000) (hF : (SV.fn f a G b F).lt n)
    (hof : ∀ (x y : Nat), x < W → y < H → ∀ (w0 : World) (nt n0 : Nat) (h' : List (Nat × Seg)) (n' : Nat), n ≤ n' → HExt n (ro h) h' → CallQ Try.prog ⟨w0, Noth, nt, n0⟩ f (lst a G ++ [spot x y] ++ lst b F) h' n' (.str (S8 (wd x y)))) :
    CallQ Try.prog cx 15 [.ptr j o, .str (S8 sep), .fn f a G b F] h n (.str (S8 (linesK W sep wd H))) := by
  refine callQ_fresh trivial fun w0 => ?_
  have hFm : ∀ m, n ≤ m → (∀ j, j < a → (G j).lt m) ∧ ∀ j, j < b → (F j).lt m := fun m hm => ⟨fun j hj => SV.lt_mono hm _ (hF.1 j hj), fun j hj => SV.lt_mono hm _ (hF.2 j hj)⟩
  have hsr : hget (ro h) j = some ⟨sg.n, sg.c, false, none⟩ := ro_some hs
  generalize ro h = hr at *
  refine callE_of_T (P := Try.prog) hti (nt := 43) (rs := [.tmp 6]) rfl rfl Try.call15 Try.func15 rfl _ (by simp only [go_sem, and_self]) (Nat.le_of_ble_eq_true rfl) _ fun hok => ?_
  have b1 : o + 1 ≤ sg.n := by omega
  have b2 : o + 1 + 1 ≤ sg.n := by omega
  have b3 : o ≤ sg.n - 1 := by omega
  have b4 : o + 1 ≤ sg.n - 1 := by omega
  have b5 : 1 ≤ sg.n := by omega
  have b6 : o < sg.n := by omega
  have b7 : o + 1 < sg.n := by omega
  simp only [go_sem, Nat.reduceLT, reduceIte, reduceCtorEq, hsr, hj, hh, b1, b2, b3, b4, b5, b6, b7]
  refine ⟨rfl, ?_⟩
  have ok0 : HOk (n + 1) ((n, ⟨2, cl [.raw (.pointer none), .nils], true, some (66, 2)⟩) :: hr) := fun i t hi => by
    simp only [hget] at hi
    split at hi
    · rename_i e; cases hi
      refine ⟨by omega, fun k hk => ?_⟩
      have hk : k < 2 := hk
      match k with
      | 0 => trivial
      | 1 => trivial
      | k + 2 => omega
    · exact ⟨by have := (hok i t hi).1; omega, fun k hk => SV.lt_mono (by omega) _ ((hok i t hi).2 k hk)⟩
  have B0 : Bld ((n, ⟨2, cl [.raw (.pointer none), .nils], true, some (66, 2)⟩) :: hr) n (n + 1) n [] := ⟨_, _, hget_hit _ _ _, .inl rfl, Nat.le_refl _, by omega, .inl ⟨rfl, rfl⟩⟩
  have X0 : HExt n hr ((n, ⟨2, cl [.raw (.pointer none), .nils], true, some (66, 2)⟩) :: hr) := fun z hz t ht => by simp only [hget]; rw [if_neg (by omega)]; exact ht
  generalize ((n, (⟨2, cl [.raw (.pointer none), .nils], true, some (66, 2)⟩ : Seg)) :: hr) = h0 at *
  refine T_lp (ι := { q : Nat × List (Nat × Seg) × Nat // q.1 ≤ H ∧ n + 1 ≤ q.2.2 ∧ HOk q.2.2 q.2.1 ∧ HExt n hr q.2.1 ∧ Bld q.2.1 n q.2.2 n (linesK W sep wd q.1) })
    (fun q => ([(0, .ptr j o), (1, .str (S8 sep)), (2, .fn f a G b F), (7, .ptr n 0), (15, .int .i8 H), (16, .int .i8 q.1.1)], q.1.2.1, q.1.2.2)) (fun q => H - q.1.1) ⟨(0, h0, n + 1), Nat.zero_le _, Nat.le_refl _, ok0, X0, B0⟩ ?_ ?_
  · refine Imp.id (by show n ≤ n + 1; omega) ?_ (impH.base0 ok0 (Nat.le_refl _) HExt.rfl)
    simp only [go_sem, Nat.reduceLT]
    exact ⟨by omega, hFm _ (by omega), by omega⟩
  rintro ⟨⟨y, hq, nq⟩, hyH, hnq, okq, xq, Bq⟩
  simp only at hyH hnq okq xq Bq
  have sq := xq j hj _ hsr
  have jq : j < nq := by omega
  have hll := linesK_le (wd := wd) hsep hwd hW8 y
  simp only [go_sem, Nat.reduceLT, reduceCtorEq, decide_eq_true_eq, decide_eq_false_iff_not]
  refine ⟨fun hy1 => ?_, fun hy1 => ?_⟩
  rotate_left
  · have e : y = H := by omega
    subst e
    refine callA_false (bldString_E _ _ _ n n _ Bq (by
      obtain ⟨k, rfl⟩ : ∃ k, y = k + 1 := ⟨y - 1, by omega⟩
      rw [linesK]
      simp) _ ?_)
    simp only [go_sem, Nat.reduceLT]
    done
  simp only [go_sem, Nat.reduceLT, sq, jq, hw, b1, b2, b3, b4, b5, b6, b7]
  generalize zrow _ = Z
  have ok1 : HOk (nq + 1) ((nq, ⟨0, Z, true, some (9, 0)⟩) :: hq) := fun i t hi => by
    simp only [hget] at hi
    split at hi
    · rename_i e; cases hi
      exact ⟨by omega, fun k hk => absurd hk (Nat.not_lt_zero k)⟩
    · exact ⟨by have := (okq i t hi).1; omega, fun k hk => SV.lt_mono (by omega) _ ((okq i t hi).2 k hk)⟩
  have X1 : HExt nq hq ((nq, ⟨0, Z, true, some (9, 0)⟩) :: hq) := fun z hz t ht => by simp only [hget]; rw [if_neg (by omega)]; exact ht
  have S1 : StrO ((nq, ⟨0, Z, true, some (9, 0)⟩) :: hq) nq (nq + 1) (.sl nq 0 0 0) [] := ⟨nq, 0, _, rfl, Nat.le_refl _, by omega, hget_hit _ _ _, rfl, rfl, rfl, Nat.le_refl _, Nat.zero_le _, fun k hk => absurd hk (Nat.not_lt_zero k)⟩
  generalize ((nq, (⟨0, Z, true, some (9, 0)⟩ : Seg)) :: hq) = h1 at *
  refine T_lp (ι := { q : Nat × List (Nat × Seg) × Nat × SV // q.1 ≤ W ∧ nq + 1 ≤ q.2.2.1 ∧ HOk q.2.2.1 q.2.1 ∧ HExt nq hq q.2.1 ∧ StrO q.2.1 nq q.2.2.1 q.2.2.2 ((List.range q.1).map fun x => wd x y) })
    (fun q => ([(0, .ptr j o), (1, .str (S8 sep)), (2, .fn f a G b F), (7, .ptr n 0), (15, .int .i8 H), (16, .int .i8 y), (8, .int .i8 y), (9, q.1.2.2.2), (23, .int .i8 W), (24, .int .i8 q.1.1)], q.1.2.1, q.1.2.2.1)) (fun q => W - q.1.1) ⟨(0, h1, nq + 1, .sl nq 0 0 0), Nat.zero_le _, Nat.le_refl _, ok1, X1, S1⟩ ?_ ?_
  · refine Imp.id (by show n ≤ nq + 1; omega) ?_ (impH.base0 ok1 (Nat.le_refl _) HExt.rfl)
    simp only [go_sem, Nat.reduceLT]
    exact ⟨by omega, hFm _ (by omega), by omega, by omega⟩
  rintro ⟨⟨x, hx, nx, V⟩, hxW, hnx, okx, xx, Sx⟩
  simp only at hxW hnx okx xx Sx
  have Xx : HExt n hr hx := xq.tr xx (by omega)
  obtain ⟨jv, capV, ⟨sn, sc, sr, so⟩, rfl, v1, v2, v3, v4, v5, v6, v7, v8, v9⟩ := Sx
  simp only at v4 v5 v6 v9
  subst v4 v5 v6
  have hlx : ((List.range x).map fun x => wd x y).length = x := by simp
  simp only [go_sem, Nat.reduceLT, Nat.reduceLeDiff, decide_eq_true_eq, decide_eq_false_iff_not]
  refine ⟨fun hx1 => ?_, fun hx1 => ?_⟩
  · have nv3 : nx ≠ jv := by omega
    refine (hof x y (by omega) (by omega) w0 _ _ hx nx (by omega) Xx).A ?_
    generalize hL : (List.range x).map (fun x => wd x y) = L at *
    have hL1 : (List.range (x + 1)).map (fun x => wd x y) = L ++ [wd x y] := by rw [List.range_succ, List.map_append, hL]; rfl
    simp only [go_sem, Nat.reduceLT, Nat.reduceLeDiff, v3, v2, nv3]
    refine ⟨⟨v7, v8, by omega⟩, fun cap' m1 m2 => ?_⟩
    generalize hC : upd (zrow _) 0 (SV.str (S8 (wd x y))) = C
    have hC0 : C 0 = .str (S8 (wd x y)) := by rw [← hC]; rfl
    obtain ⟨okN, exN, spN⟩ := strApp1 (n := nq) (h := hq) (nq := nx) (jv := jv) (A := L) (a := wd x y) (sc := sc) (c1 := C) (w := some (9, 1)) (by omega) okx xx v1 hC0 v9 m1 m2
    refine ⟨⟨(x + 1, _, nx + 2, .sl (nx + 1) 0 (L.length + 1) cap'), by show x + 1 ≤ W; omega, by show nq + 1 ≤ nx + 2; omega, okN, exN, by show StrO _ _ _ _ ((List.range (x + 1)).map fun x => wd x y); rw [hL1]; exact spN⟩, by show W - (x + 1) < W - x; omega, ?_⟩
    refine Imp.id (by show n ≤ nx + 2; omega) ?_ (impH.base0 okN (Nat.le_refl _) HExt.rfl)
    simp only [go_sem, Nat.reduceLT, w8 (n := (x : Int) + 1) (by omega), Int.natCast_add, Int.natCast_one]
    exact ⟨by omega, hFm _ (by omega), by omega, by omega⟩
  · have e : x = W := by omega
    subst e
    have hj2 := join_le sep 1000 ((List.range x).map fun x => wd x y) (fun a ha => by
      obtain ⟨x, _, rfl⟩ := List.mem_map.1 ha
      exact hwd x y)
    have hrl := rowL_le (wd := wd) hsep hwd hW8 y
    refine (join_Q _ _ _ jv capV ((List.range x).map fun x => wd x y) sep _ v3 v2 (Nat.le_refl _) v9 v7 (by omega) (by unfold rowL at hrl; omega)).A ?_
    have e10 : (⟨#[10]⟩ : ByteArray) = S8 [10] := rfl
    simp only [go_sem, Nat.reduceLT, Nat.reduceLeDiff, e10]
    have hrl2 : (Lib.join ((List.range x).map fun x => wd x y) sep).length ≤ 8080 := hrl
    refine ⟨by omega, callA_false (writeStr_E _ hx nx n n (linesK x sep wd y) (Lib.join ((List.range x).map fun x => wd x y) sep ++ [10]) (Bq.ext (by omega) xx) (by rw [List.length_append, List.length_singleton]; omega) (by rw [List.length_append, List.length_singleton]; omega) _ ?_)⟩
    intro h3 n3 hn3 x3 ok3 B3
    simp only [go_sem, Nat.reduceLT]
    refine ⟨⟨(y + 1, h3, n3), by show y + 1 ≤ H; omega, by show n + 1 ≤ n3; omega, ok3, Xx.tr x3 (Nat.le_refl _), B3⟩, by show H - (y + 1) < H - y; omega, ?_⟩
    refine Imp.id (by show n ≤ n3; omega) ?_ (impH.base0 ok3 (Nat.le_refl _) HExt.rfl)
    simp only [go_sem, Nat.reduceLT, w8 (n := (y : Int) + 1) (by omega), Int.natCast_add, Int.natCast_one]
    exact ⟨by omega, hFm _ (by omega), by omega⟩
end
end Go.Proofs.Ytckefhnobflhcaa.V

/- SeenThrough: the colour of a cell, the letter of a stack's cell: the walks. -/
namespace Go.Proofs.Ytckefhnobflhcaa.V
/-- The colour of three dyes of which m is the greatest: none, mixed, or which. -/
def colM (m a b c : Int) : Int := if m = 0 then -1 else if (a = m ∧ b = m) ∨ (a = m ∧ c = m) ∨ (b = m ∧ c = m) then 3 else if a = m then 0 else if b = m then 1 else 2
def colD (a b c : Int) : Int := colM (max (max a b) c) a b c
def letC (c : Int) : List UInt8 := if c = -1 then [46] else if c = 0 then [97] else if c = 1 then [98] else if c = 2 then [99] else [109]
theorem colD_in (a b c : Int) : colD a b c = -1 ∨ colD a b c = 0 ∨ colD a b c = 1 ∨ colD a b c = 2 ∨ colD a b c = 3 := by
  unfold colD colM
  (repeat' split) <;> simp
def colS (S : Sh) (x y : Int) : Int := colD (S.dye y x 0) (S.dye y x 1) (S.dye y x 2)
/-- What is seen at a cell. -/
def seeL (L : List Sh) (least x y : Int) : List UInt8 := match L with
  | [] => [46]
  | S :: r => if waxB S x y then [119] else if least ≤ darkB S x y then letC (colS S x y) else seeL r least x y
section
variable (cx : Cx) (h : List (Nat × Seg)) (n : Nat)
theorem isDarkness_Q (a : Int) : CallQ Try.prog cx 14 [.int .i64 a] h n (.bool (decide (1 ≤ a ∧ a ≤ 3000))) := by
  refine callQ_of_T (P := Try.prog) hti (nt := 5) (rs := [.tmp 2]) rfl rfl Try.call14 Try.func14 rfl _ (by simp only [go_sem, and_self]) (Nat.le_of_ble_eq_true rfl) _ (by first | exact trivial | (refine lt_flat rfl ?_; simp [SV.flat]; done) | simp only [go_sem]) fun hok => ?_
  simp only [go_sem, Nat.reduceLT]
  refine (within_Q _ _ _ a 1 3000).A ?_
  simp only [go_sem, Nat.reduceLT]
theorem least2_Q (a : Int) : CallQ Try.prog cx 10 [.int .i64 a] h n (.bool (decide (1 ≤ a ∧ a ≤ 3000))) := by
  refine callQ_of_T (P := Try.prog) hti (nt := 5) (rs := [.tmp 2]) rfl rfl Try.call10 Try.func10 rfl _ (by simp only [go_sem, and_self]) (Nat.le_of_ble_eq_true rfl) _ (by first | exact trivial | (refine lt_flat rfl ?_; simp [SV.flat]; done) | simp only [go_sem]) fun hok => ?_
  simp only [go_sem, Nat.reduceLT]
  refine (in_Q _ _ _ a 1 3000).A ?_
  simp only [go_sem, Nat.reduceLT]
theorem colour_Q (i o : Nat) (s : Seg) (S : Sh) (x y : Int) (hs : hget h i = some s) (hi : i < n) (hS : ShAt s o S) (hG : Good S) (hx : 0 ≤ x) (hx8 : x < 8) (hy : 0 ≤ y) (hy8 : y < 8) :
    CallQ Try.prog cx 19 [.ptr i o, spot x y] h n (.int .i64 (colS S x y)) := by
  have h0 := hG.dye y x 0 hy hy8 hx hx8 (by omega) (by omega)
  have h1 := hG.dye y x 1 hy hy8 hx hx8 (by omega) (by omega)
  have h2 := hG.dye y x 2 hy hy8 hx hx8 (by omega) (by omega)
  refine callQ_of_T (P := Try.prog) hti (nt := 38) (rs := [.tmp 4]) rfl rfl Try.call19 Try.func19 rfl _ (by simp only [go_sem, and_self]) (Nat.le_of_ble_eq_true rfl) _ (by first | exact trivial | (refine lt_flat rfl ?_; simp [SV.flat]; done) | simp only [go_sem]) fun hok => ?_
  simp only [go_sem, Nat.reduceLT, Int.reduceNeg]
  refine (dye_Q _ _ _ i o s S x y (by simp only [go_sem, hs, hi]) (by omega) hS hx hx8 hy hy8).A ?_
  unfold colS
  generalize S.dye y x 0 = a at *
  generalize S.dye y x 1 = b at *
  generalize S.dye y x 2 = c at *
  simp only [go_sem, Nat.reduceLT, Nat.reduceLeDiff, Nat.reduceEqDiff, Int.reduceToNat, reduceIte, Int.reduceLE, Int.reduceLT, Int.reduceNeg]
  have hm : max (max a b) c = a ∨ max (max a b) c = b ∨ max (max a b) c = c := by omega
  unfold colD
  generalize max (max a b) c = m at *
  by_cases h00 : m = 0
  · simp only [go_sem, reduceCtorEq, Int.reduceNeg, h00, colM, if_true]
  have e0 : (m = 0) = False := eq_false h00
  by_cases ha : a = m <;> by_cases hb : b = m <;> by_cases hc : c = m
  · simp only [go_sem, Int.reduceNeg, e0, decide_false, decide_eq_false_iff_not]
    refine T_unroll 3 ?_
    simp only [go_sem, Nat.reduceLT, Int.reduceToNat, Int.reduceLE, Int.reduceLT, Int.reduceNeg, Int.reduceAdd, ha]
    refine U_step ?_
    simp only [go_sem, Nat.reduceLT, Int.reduceToNat, Int.reduceLE, Int.reduceLT, Int.reduceNeg, Int.reduceAdd, hb]
    refine U_step ?_
    simp only [go_sem, Nat.reduceLT, Int.reduceToNat, Int.reduceLE, Int.reduceLT, Int.reduceNeg, Int.reduceAdd, hc]
    refine U_step ?_
    simp only [go_sem, Nat.reduceLT, reduceIte, Int.reduceLT, Int.reduceNeg, colM, h00, ha, hb, hc, true_or, or_true, false_or, or_false]
  · simp only [go_sem, Int.reduceNeg, e0, decide_false, decide_eq_false_iff_not]
    refine T_unroll 3 ?_
    simp only [go_sem, Nat.reduceLT, Int.reduceToNat, Int.reduceLE, Int.reduceLT, Int.reduceNeg, Int.reduceAdd, ha]
    refine U_step ?_
    simp only [go_sem, Nat.reduceLT, Int.reduceToNat, Int.reduceLE, Int.reduceLT, Int.reduceNeg, Int.reduceAdd, hb]
    refine U_step ?_
    simp only [go_sem, Nat.reduceLT, Int.reduceToNat, Int.reduceLE, Int.reduceLT, Int.reduceNeg, Int.reduceAdd, hc]
    refine U_step ?_
    simp only [go_sem, Nat.reduceLT, reduceIte, Int.reduceLT, Int.reduceNeg, colM, h00, ha, hb, hc, true_or, or_true, false_or, or_false]
  · simp only [go_sem, Int.reduceNeg, e0, decide_false, decide_eq_false_iff_not]
    refine T_unroll 3 ?_
    simp only [go_sem, Nat.reduceLT, Int.reduceToNat, Int.reduceLE, Int.reduceLT, Int.reduceNeg, Int.reduceAdd, ha]
    refine U_step ?_
    simp only [go_sem, Nat.reduceLT, Int.reduceToNat, Int.reduceLE, Int.reduceLT, Int.reduceNeg, Int.reduceAdd, hb]
    refine U_step ?_
    simp only [go_sem, Nat.reduceLT, Int.reduceToNat, Int.reduceLE, Int.reduceLT, Int.reduceNeg, Int.reduceAdd, hc]
    refine U_step ?_
    simp only [go_sem, Nat.reduceLT, reduceIte, Int.reduceLT, Int.reduceNeg, colM, h00, ha, hb, hc, true_or, or_true, false_or, or_false]
  · simp only [go_sem, Int.reduceNeg, e0, decide_false, decide_eq_false_iff_not]
    refine T_unroll 3 ?_
    simp only [go_sem, Nat.reduceLT, Int.reduceToNat, Int.reduceLE, Int.reduceLT, Int.reduceNeg, Int.reduceAdd, ha]
    refine U_step ?_
    simp only [go_sem, Nat.reduceLT, Int.reduceToNat, Int.reduceLE, Int.reduceLT, Int.reduceNeg, Int.reduceAdd, hb]
    refine U_step ?_
    simp only [go_sem, Nat.reduceLT, Int.reduceToNat, Int.reduceLE, Int.reduceLT, Int.reduceNeg, Int.reduceAdd, hc]
    refine U_step ?_
    simp only [go_sem, Nat.reduceLT, reduceIte, Int.reduceLT, Int.reduceNeg, colM, h00, ha, hb, hc, true_or, or_true, false_or, or_false]
  · simp only [go_sem, Int.reduceNeg, e0, decide_false, decide_eq_false_iff_not]
    refine T_unroll 3 ?_
    simp only [go_sem, Nat.reduceLT, Int.reduceToNat, Int.reduceLE, Int.reduceLT, Int.reduceNeg, Int.reduceAdd, ha]
    refine U_step ?_
    simp only [go_sem, Nat.reduceLT, Int.reduceToNat, Int.reduceLE, Int.reduceLT, Int.reduceNeg, Int.reduceAdd, hb]
    refine U_step ?_
    simp only [go_sem, Nat.reduceLT, Int.reduceToNat, Int.reduceLE, Int.reduceLT, Int.reduceNeg, Int.reduceAdd, hc]
    refine U_step ?_
    simp only [go_sem, Nat.reduceLT, reduceIte, Int.reduceLT, Int.reduceNeg, colM, h00, ha, hb, hc, true_or, or_true, false_or, or_false]
  · simp only [go_sem, Int.reduceNeg, e0, decide_false, decide_eq_false_iff_not]
    refine T_unroll 3 ?_
    simp only [go_sem, Nat.reduceLT, Int.reduceToNat, Int.reduceLE, Int.reduceLT, Int.reduceNeg, Int.reduceAdd, ha]
    refine U_step ?_
    simp only [go_sem, Nat.reduceLT, Int.reduceToNat, Int.reduceLE, Int.reduceLT, Int.reduceNeg, Int.reduceAdd, hb]
    refine U_step ?_
    simp only [go_sem, Nat.reduceLT, Int.reduceToNat, Int.reduceLE, Int.reduceLT, Int.reduceNeg, Int.reduceAdd, hc]
    refine U_step ?_
    simp only [go_sem, Nat.reduceLT, reduceIte, Int.reduceLT, Int.reduceNeg, colM, h00, ha, hb, hc, true_or, or_true, false_or, or_false]
  · simp only [go_sem, Int.reduceNeg, e0, decide_false, decide_eq_false_iff_not]
    refine T_unroll 3 ?_
    simp only [go_sem, Nat.reduceLT, Int.reduceToNat, Int.reduceLE, Int.reduceLT, Int.reduceNeg, Int.reduceAdd, ha]
    refine U_step ?_
    simp only [go_sem, Nat.reduceLT, Int.reduceToNat, Int.reduceLE, Int.reduceLT, Int.reduceNeg, Int.reduceAdd, hb]
    refine U_step ?_
    simp only [go_sem, Nat.reduceLT, Int.reduceToNat, Int.reduceLE, Int.reduceLT, Int.reduceNeg, Int.reduceAdd, hc]
    refine U_step ?_
    simp only [go_sem, Nat.reduceLT, reduceIte, Int.reduceLT, Int.reduceNeg, colM, h00, ha, hb, hc, true_or, or_true, false_or, or_false]
  · exact absurd hm (by omega)
theorem colour2_Q (a b c : Int) (h0 : 0 ≤ a ∧ a ≤ 1000) (h1 : 0 ≤ b ∧ b ≤ 1000) (h2 : 0 ≤ c ∧ c ≤ 1000) :
    CallQ Try.prog cx 25 [.agg 3 (cl [.int .i16 a, .int .i16 b, .int .i16 c])] h n (.int .i64 (colD a b c)) := by
  refine callQ_of_T (P := Try.prog) hti (nt := 41) (rs := [.tmp 2]) rfl rfl Try.call25 Try.func25 rfl _ (by simp only [go_sem, and_self]) (Nat.le_of_ble_eq_true rfl) _ (by first | exact trivial | (refine lt_flat rfl ?_; simp [SV.flat]; done) | simp only [go_sem]) fun hok => ?_
  have wa : IntKind.i64.wrap a = a := w64 (by omega)
  have wb : IntKind.i64.wrap b = b := w64 (by omega)
  have wc : IntKind.i64.wrap c = c := w64 (by omega)
  simp only [go_sem, Nat.reduceLT, Int.reduceNeg]
  refine T_drawG hti 12 [] (.b 0 0 (.b 0 1 (.b 0 2 (.b 0 3 (.b 0 4 (.b 0 5 (.b 0 6 (.b 0 7 (.b 0 8 (.b 1 9 (.b 1 10 (.b 0 11 (.f) .o) .o) .o) .o) .o) .o) .o) .o) .o) .o) .o) .o) _ _ (by kernel_rfl) (by kernel_rfl) ?_
  simp only [go_sem, Nat.reduceLT, Nat.reduceLeDiff, Int.reduceToNat, Int.reduceLE, Int.reduceLT, Int.reduceNeg, wa, wb, wc]
  refine CallQ.F _ (fun h' n' hn' hx' => max2_Q _ h' n' b c) ?_
  simp only [go_sem, Nat.reduceLT, Int.reduceNeg, wa, wb, wc]
  refine CallQ.F _ (fun h' n' hn' hx' => max2_Q _ h' n' a (max b c)) ?_
  have em : max a (max b c) = max (max a b) c := by omega
  rw [em]
  have hm : max (max a b) c = a ∨ max (max a b) c = b ∨ max (max a b) c = c := by omega
  have hmm : 0 ≤ max (max a b) c ∧ max (max a b) c ≤ 1000 := by omega
  unfold colD
  generalize max (max a b) c = m at *
  have wm : IntKind.i64.wrap m = m := w64 (by omega)
  by_cases h00 : m = 0
  · simp only [go_sem, Nat.reduceLT, Int.reduceNeg, h00, colM, if_true]
  have e0 : (m = 0) = False := eq_false h00
  by_cases ha : a = m <;> by_cases hb : b = m <;> by_cases hc : c = m
  · simp only [go_sem, Nat.reduceLT, Int.reduceNeg, e0, decide_false, decide_eq_false_iff_not]
    refine T_unroll 3 ?_
    simp only [go_sem, Nat.reduceLT, Nat.reduceLeDiff, Int.reduceToNat, Int.reduceLE, Int.reduceLT, Int.reduceNeg, Int.reduceAdd, wa, wm, ha]
    refine U_step ?_
    simp only [go_sem, Nat.reduceLT, Nat.reduceLeDiff, Int.reduceToNat, Int.reduceLE, Int.reduceLT, Int.reduceNeg, wb, wm, hb]
    simp only [go_sem, reduceIte, Int.reduceNeg, colM, h00, ha, hb, hc, true_or, or_true, false_or, or_false]
  · simp only [go_sem, Nat.reduceLT, Int.reduceNeg, e0, decide_false, decide_eq_false_iff_not]
    refine T_unroll 3 ?_
    simp only [go_sem, Nat.reduceLT, Nat.reduceLeDiff, Int.reduceToNat, Int.reduceLE, Int.reduceLT, Int.reduceNeg, Int.reduceAdd, wa, wm, ha]
    refine U_step ?_
    simp only [go_sem, Nat.reduceLT, Nat.reduceLeDiff, Int.reduceToNat, Int.reduceLE, Int.reduceLT, Int.reduceNeg, wb, wm, hb]
    simp only [go_sem, reduceIte, Int.reduceNeg, colM, h00, ha, hb, hc, true_or, or_true, false_or, or_false]
  · simp only [go_sem, Nat.reduceLT, Int.reduceNeg, e0, decide_false, decide_eq_false_iff_not]
    refine T_unroll 3 ?_
    simp only [go_sem, Nat.reduceLT, Nat.reduceLeDiff, Int.reduceToNat, Int.reduceLE, Int.reduceLT, Int.reduceNeg, Int.reduceAdd, wa, wm, ha]
    refine U_step ?_
    simp only [go_sem, Nat.reduceLT, Nat.reduceLeDiff, Int.reduceToNat, Int.reduceLE, Int.reduceLT, Int.reduceNeg, Int.reduceAdd, wb, wm, hb]
    refine U_step ?_
    simp only [go_sem, Nat.reduceLT, Int.reduceToNat, Int.reduceLE, Int.reduceLT, Int.reduceNeg, wc, wm, hc]
    simp only [go_sem, reduceIte, Int.reduceNeg, colM, h00, ha, hb, hc, true_or, or_true, false_or, or_false]
  · simp only [go_sem, Nat.reduceLT, Int.reduceNeg, e0, decide_false, decide_eq_false_iff_not]
    refine T_unroll 3 ?_
    simp only [go_sem, Nat.reduceLT, Nat.reduceLeDiff, Int.reduceToNat, Int.reduceLE, Int.reduceLT, Int.reduceNeg, Int.reduceAdd, wa, wm, ha]
    refine U_step ?_
    simp only [go_sem, Nat.reduceLT, Nat.reduceLeDiff, Int.reduceToNat, Int.reduceLE, Int.reduceLT, Int.reduceNeg, Int.reduceAdd, wb, wm, hb]
    refine U_step ?_
    simp only [go_sem, Nat.reduceLT, Int.reduceToNat, Int.reduceLE, Int.reduceLT, Int.reduceNeg, Int.reduceAdd, wc, wm, hc]
    refine U_step ?_
    simp only [go_sem, Nat.reduceLT, reduceIte, Int.reduceLT, Int.reduceNeg, colM, h00, ha, hb, hc, true_or, or_true, false_or, or_false]
  · simp only [go_sem, Nat.reduceLT, Int.reduceNeg, e0, decide_false, decide_eq_false_iff_not]
    refine T_unroll 3 ?_
    simp only [go_sem, Nat.reduceLT, Nat.reduceLeDiff, Int.reduceToNat, Int.reduceLE, Int.reduceLT, Int.reduceNeg, Int.reduceAdd, wa, wm, ha]
    refine U_step ?_
    simp only [go_sem, Nat.reduceLT, Nat.reduceLeDiff, Int.reduceToNat, Int.reduceLE, Int.reduceLT, Int.reduceNeg, Int.reduceAdd, wb, wm, hb]
    refine U_step ?_
    simp only [go_sem, Nat.reduceLT, Int.reduceToNat, Int.reduceLE, Int.reduceLT, Int.reduceNeg, wc, wm, hc]
    simp only [go_sem, reduceIte, Int.reduceNeg, colM, h00, ha, hb, hc, true_or, or_true, false_or, or_false]
  · simp only [go_sem, Nat.reduceLT, Int.reduceNeg, e0, decide_false, decide_eq_false_iff_not]
    refine T_unroll 3 ?_
    simp only [go_sem, Nat.reduceLT, Nat.reduceLeDiff, Int.reduceToNat, Int.reduceLE, Int.reduceLT, Int.reduceNeg, Int.reduceAdd, wa, wm, ha]
    refine U_step ?_
    simp only [go_sem, Nat.reduceLT, Nat.reduceLeDiff, Int.reduceToNat, Int.reduceLE, Int.reduceLT, Int.reduceNeg, Int.reduceAdd, wb, wm, hb]
    refine U_step ?_
    simp only [go_sem, Nat.reduceLT, Int.reduceToNat, Int.reduceLE, Int.reduceLT, Int.reduceNeg, Int.reduceAdd, wc, wm, hc]
    refine U_step ?_
    simp only [go_sem, Nat.reduceLT, reduceIte, Int.reduceLT, Int.reduceNeg, colM, h00, ha, hb, hc, true_or, or_true, false_or, or_false]
  · simp only [go_sem, Nat.reduceLT, Int.reduceNeg, e0, decide_false, decide_eq_false_iff_not]
    refine T_unroll 3 ?_
    simp only [go_sem, Nat.reduceLT, Nat.reduceLeDiff, Int.reduceToNat, Int.reduceLE, Int.reduceLT, Int.reduceNeg, Int.reduceAdd, wa, wm, ha]
    refine U_step ?_
    simp only [go_sem, Nat.reduceLT, Nat.reduceLeDiff, Int.reduceToNat, Int.reduceLE, Int.reduceLT, Int.reduceNeg, Int.reduceAdd, wb, wm, hb]
    refine U_step ?_
    simp only [go_sem, Nat.reduceLT, Int.reduceToNat, Int.reduceLE, Int.reduceLT, Int.reduceNeg, Int.reduceAdd, wc, wm, hc]
    refine U_step ?_
    simp only [go_sem, Nat.reduceLT, reduceIte, Int.reduceLT, Int.reduceNeg, colM, h00, ha, hb, hc, true_or, or_true, false_or, or_false]
  · exact absurd hm (by omega)
end
end Go.Proofs.Ytckefhnobflhcaa.V

/- SeenThrough: the program's letter of a cell: the walk. -/
namespace Go.Proofs.Ytckefhnobflhcaa.V
theorem bt_let : bt ⟨#[46, 97, 98, 99, 109]⟩ 0 = 46 ∧ bt ⟨#[46, 97, 98, 99, 109]⟩ 1 = 97 ∧ bt ⟨#[46, 97, 98, 99, 109]⟩ 2 = 98 ∧ bt ⟨#[46, 97, 98, 99, 109]⟩ 3 = 99 ∧ bt ⟨#[46, 97, 98, 99, 109]⟩ 4 = 109 := ⟨rfl, rfl, rfl, rfl, rfl⟩
theorem enc_let : Go.Utf8.encode 46 = S8 [46] ∧ Go.Utf8.encode 97 = S8 [97] ∧ Go.Utf8.encode 98 = S8 [98] ∧ Go.Utf8.encode 99 = S8 [99] ∧ Go.Utf8.encode 109 = S8 [109] := ⟨rfl, rfl, rfl, rfl, rfl⟩
theorem seeL_step {L : List Sh} {least x y : Int} {q : Nat} (hq : q < L.length) : seeL (L.drop q) least x y = if waxB (L.getD q sh0) x y then [119] else if least ≤ darkB (L.getD q sh0) x y then letC (colS (L.getD q sh0) x y) else seeL (L.drop (q + 1)) least x y := by
  rw [List.drop_eq_getElem_cons hq]
  have e : L.getD q sh0 = L[q] := by rw [List.getD_eq_getElem?_getD, List.getElem?_eq_getElem hq]; rfl
  rw [e]; rfl
section
variable (cx : Cx) (h : List (Nat × Seg)) (n : Nat)
set_option maxRecDepth 10000 in
theorem seen1_Q (iv il i cap : Nat) (L : List Sh) (least x y : Int) (s sv sl : Seg) (hv : hget h iv = some sv) (hvi : iv < n) (hv1 : sv.n = 1) (hv2 : sv.c 0 = .sl i 0 L.length cap) (hl : hget h il = some sl) (hli : il < n) (hl1 : sl.n = 1) (hl2 : sl.c 0 = .int .i64 least)
    (hs : hget h i = some s) (hi : i < n) (hL : StAt s L) (hLR : StR L) (hok : StOk L) (hx : 0 ≤ x) (hx8 : x < 8) (hy : 0 ≤ y) (hy8 : y < 8) :
    CallQ Try.prog cx 16 [spot x y, .ptr iv 0, .ptr il 0] h n (.str (S8 (seeL L least x y))) := by
  obtain ⟨svn, svc, svr, svo⟩ := sv
  obtain ⟨sln, slc, slr, slo⟩ := sl
  simp only at hv1 hv2 hl1 hl2
  subst hv1 hl1
  refine callQ_of_T (P := Try.prog) hti (nt := 27) (rs := [.tmp 4]) rfl rfl Try.call16 Try.func16 rfl _ (by simp only [go_sem, and_self]) (Nat.le_of_ble_eq_true rfl) _ (by first | exact trivial | (refine lt_flat rfl ?_; simp [SV.flat]; done) | simp only [go_sem]) fun hok0 => ?_
  simp only [go_sem, Nat.reduceLT, hv, hvi, hv2]
  refine T_lp (ι := { q : Nat // q ≤ L.length ∧ seeL L least x y = seeL (L.drop q) least x y })
    (fun q => ([(1, .ptr iv 0), (2, .ptr il 0), (3, .ptr n 0), (7, .sl i 0 L.length cap), (8, .int .i64 L.length), (9, .int .i64 q.1)], (n, ⟨2, cl [.int .i8 x, .int .i8 y], true, none⟩) :: h, n + 1)) (fun q => L.length - q.1) ⟨0, Nat.zero_le _, rfl⟩ ?_ ?_
  · refine Imp.id (by simp) ?_ (impH.cons0 (hget_hit _ _ _) (by simp) (SegLe.flat (Nat.le_refl _) id (.inr rfl) fun k hk => ⟨rfl, pair_flat _ _ hk⟩) (impH.base0 hok0 (by simp) (by simp only [go_sem, HExt_cons])))
    simp only [go_sem, Nat.reduceLT]
    (repeat' apply And.intro) <;> first | omega | rfl | trivial | assumption | skip
  rintro ⟨q, hq, hse⟩
  simp only [go_sem, Nat.reduceLT, decide_eq_true_eq, decide_eq_false_iff_not]
  refine ⟨fun h1 => ?_, fun h1 => ?_⟩
  rotate_left
  · have e : q = L.length := by omega
    subst e
    rw [List.drop_length] at hse
    have e46 : (⟨#[46]⟩ : ByteArray) = S8 [46] := rfl
    simp only [go_sem, hse, e46]
    rfl
  have hql : q < L.length := by omega
  have hA := hL.sh hLR hql
  have hV := (hok.2 q hql).1
  rw [seeL_step hql] at hse
  have hl6 := hok.1
  have b1 : (0 : Int) ≤ q ∧ (q : Int) < L.length := ⟨by omega, by omega⟩
  have b2 : q * 266 ≤ s.n - 266 := by have := hA.1; omega
  have b3 : 266 ≤ s.n := by have := hA.1; omega
  have b4 : q * 266 + 266 ≤ s.n := hA.1
  have b5 : q * 266 ≤ 4294967296 := by omega
  have hin : n ≠ i := by omega
  simp only [go_sem, Nat.reduceLT, Nat.reduceEqDiff, reduceIte, hs, hi, b1, b2, b3, b4, b5, hin]
  refine ⟨fun j hj => ?_, ?_⟩
  · show (s.c (q * 266 + j)).one
    have hj : j < 266 := hj
    rw [hL.2 _ (by omega)]; exact (stC_flat _ _).one
  have hF : ShAt ⟨266, fun j => s.c (q * 266 + j), true, none⟩ 0 (L.getD q sh0) := ⟨Nat.le_refl _, by
    have := hA.2
    simpa using this⟩
  refine (waxed_Q _ _ _ (n + 1) 0 _ (L.getD q sh0) x y (hget_hit _ _ _) (by omega) hF hx hy hy8).A ?_
  cases hwx : waxB (L.getD q sh0) x y
  rotate_left
  · rw [hwx, if_pos rfl] at hse
    have e119 : (⟨#[119]⟩ : ByteArray) = S8 [119] := rfl
    simp only [go_sem, Nat.reduceLT, e119, hse]
  rw [hwx, if_neg (by simp)] at hse
  simp only [go_sem, Nat.reduceLT]
  refine T_drawG hti 5 [] (.b 0 0 (.b 0 2 (.b 1 1 (.b 0 3 (.b 0 4 (.f) .o) .o) .o) .o) .o) _ _ (by kernel_rfl) (by kernel_rfl) ?_
  simp only [go_sem, Nat.reduceLT, hl, hli, hl2]
  refine CallQ.F _ (fun h' n' hn' hx' => dark_Q _ h' n' (n + 1) 0 _ (L.getD q sh0) x y (hx' _ (by omega) _ (hget_hit _ _ _)) (by omega) hF hV.good hx hx8 hy hy8) ?_
  by_cases hd : least ≤ darkB (L.getD q sh0) x y
  rotate_left
  · rw [if_neg hd] at hse
    simp only [go_sem, Nat.reduceLT, hl, hli, hl2, hd]
    refine ⟨⟨q + 1, by omega, hse⟩, by show L.length - (q + 1) < L.length - q; omega, ?_⟩
    refine Imp.id (by simp) ?_ (impH.cons0 (by first | (simp only [go_sem]; done) | (simp only [go_sem, Nat.reduceBEq, Nat.reduceLT, Nat.reduceLeDiff, Nat.reduceAdd, Nat.reduceMul, Nat.reduceSub, Nat.reduceMod, Nat.reduceDiv, Nat.reduceEqDiff, Int.reduceToNat, reduceIte, reduceCtorEq, Int.reduceLE, Int.reduceLT, Int.reduceEq, Int.reduceNeg, Int.reduceAdd, Int.reduceSub, Int.reduceMul]; rfl)) (by simp) (SegLe.flat (Nat.le_refl _) id (.inr rfl) fun k hk => ⟨rfl, pair_flat _ _ hk⟩) (impH.base0 hok0 (by simp) (by simp only [go_sem, HExt_cons])))
    simp only [go_sem, Nat.reduceLT, w64 (n := (q : Int) + 1) (by omega), Int.natCast_add, Int.natCast_one]
    (repeat' apply And.intro) <;> first | omega | rfl | trivial | assumption | skip
  rw [if_pos hd] at hse
  simp only [go_sem, Nat.reduceLT, hl, hli, hl2, hd]
  refine (colour_Q _ _ _ (n + 1) 0 _ (L.getD q sh0) x y (hget_hit _ _ _) (by omega) hF hV.good hx hx8 hy hy8).A ?_
  obtain ⟨t0, t1, t2, t3, t4⟩ := bt_let
  obtain ⟨c0, c1, c2, c3, c4⟩ := enc_let
  rcases colD_in ((L.getD q sh0).dye y x 0) ((L.getD q sh0).dye y x 1) ((L.getD q sh0).dye y x 2) with e | e | e | e | e
  · have e : colS (L.getD q sh0) x y = -1 := e
    rw [e] at hse ⊢
    have hse : seeL L least x y = [46] := hse
    rw [hse]
    simp only [go_sem, Nat.reduceLT, Int.reduceLE, Int.reduceLT, Int.reduceNeg, Int.reduceAdd, show IntKind.i64.wrap (-1 + 1) = 0 from rfl, t0]
    refine ⟨by decide, rfl, rune_sem hti (k := .u8) (m := 46) rfl (by simp [dok]) rfl rfl rfl ?_⟩
    rw [c0]
    simp only [go_sem, Nat.reduceLT, Int.reduceNeg]
  · have e : colS (L.getD q sh0) x y = 0 := e
    rw [e] at hse ⊢
    have hse : seeL L least x y = [97] := hse
    rw [hse]
    simp only [go_sem, Nat.reduceLT, Int.reduceLE, Int.reduceLT, Int.reduceNeg, Int.reduceAdd, show IntKind.i64.wrap (0 + 1) = 1 from rfl, t1]
    refine ⟨by decide, rfl, rune_sem hti (k := .u8) (m := 97) rfl (by simp [dok]) rfl rfl rfl ?_⟩
    rw [c1]
    simp only [go_sem, Nat.reduceLT]
  · have e : colS (L.getD q sh0) x y = 1 := e
    rw [e] at hse ⊢
    have hse : seeL L least x y = [98] := hse
    rw [hse]
    simp only [go_sem, Nat.reduceLT, Int.reduceLE, Int.reduceLT, Int.reduceNeg, Int.reduceAdd, show IntKind.i64.wrap (1 + 1) = 2 from rfl, t2]
    refine ⟨by decide, rfl, rune_sem hti (k := .u8) (m := 98) rfl (by simp [dok]) rfl rfl rfl ?_⟩
    rw [c2]
    simp only [go_sem, Nat.reduceLT]
  · have e : colS (L.getD q sh0) x y = 2 := e
    rw [e] at hse ⊢
    have hse : seeL L least x y = [99] := hse
    rw [hse]
    simp only [go_sem, Nat.reduceLT, Int.reduceLE, Int.reduceLT, Int.reduceNeg, Int.reduceAdd, show IntKind.i64.wrap (2 + 1) = 3 from rfl, t3]
    refine ⟨by decide, rfl, rune_sem hti (k := .u8) (m := 99) rfl (by simp [dok]) rfl rfl rfl ?_⟩
    rw [c3]
    simp only [go_sem, Nat.reduceLT]
  · have e : colS (L.getD q sh0) x y = 3 := e
    rw [e] at hse ⊢
    have hse : seeL L least x y = [109] := hse
    rw [hse]
    simp only [go_sem, Nat.reduceLT, Int.reduceLE, Int.reduceLT, Int.reduceNeg, Int.reduceAdd, show IntKind.i64.wrap (3 + 1) = 4 from rfl, t4]
    refine ⟨by decide, rfl, rune_sem hti (k := .u8) (m := 109) rfl (by simp [dok]) rfl rfl rfl ?_⟩
    rw [c4]
    simp only [go_sem, Nat.reduceLT]
end
end Go.Proofs.Ytckefhnobflhcaa.V

/- SeenThrough: both codes: the walks. -/
namespace Go.Proofs.Ytckefhnobflhcaa.V
theorem letC_len (c : Int) : (letC c).length = 1 := by unfold letC; (repeat' split) <;> rfl
theorem seeL_len (least x y : Int) : ∀ L, (seeL L least x y).length = 1
  | [] => rfl
  | S :: r => by
    rw [seeL]
    split
    · rfl
    · split
      · exact letC_len _
      · exact seeL_len least x y r
/-- What SeenThrough gives. -/
noncomputable def seenR (L : List Sh) (least : Int) : List UInt8 × Int := haveI := Classical.propDecidable
  if stokB L then (if 1 ≤ least ∧ least ≤ 3000 then (if L.length = 0 then ([], 0) else (linesK (L.getD 0 sh0).wide.toNat [] (fun x y => seeL L least x y) (L.getD 0 sh0).high.toNat, 0)) else ([], 2)) else ([], 1)
section
variable (cx : Cx) (h : List (Nat × Seg)) (n : Nat)
set_option maxRecDepth 10000 in
theorem seen_Q (A : SV) (L : List Sh) (least : Int) (hA : StArg h n A L) (hLR : StR L) (hm9 : L.length ≤ 10000000) :
    CallQ Try.prog cx 7 [A, .int .i64 least] h n (.tup 2 (cl [.str (S8 (seenR L least).1), .int .i64 (seenR L least).2])) := by
  have e0 : (⟨#[]⟩ : ByteArray) = S8 [] := rfl
  have hcode : codeSt L (decide (1 ≤ least ∧ least ≤ 3000)) = if stokB L then (if decide (1 ≤ least ∧ least ≤ 3000) then 0 else 2) else 1 := rfl
  rcases hA with ⟨rfl, rfl⟩ | ⟨i, cap, s, rfl, hi, hs, hL⟩
  · have hst : stokB ([] : List Sh) = true := by simp [stokB, StOk]
    rw [hst] at hcode
    refine callQ_of_T (P := Try.prog) hti (nt := 21) (rs := [.tmp 4, .tmp 5]) rfl rfl Try.call7 Try.func7 rfl _ (by simp only [go_sem, and_self]) (Nat.le_of_ble_eq_true rfl) _ (by first | exact trivial | (refine lt_flat rfl ?_; simp [SV.flat]; done) | simp only [go_sem]) fun hok => ?_
    simp only [go_sem, Nat.reduceLT]
    refine T_drawG hti 5 [] (.b 0 0 (.b 0 1 (.b 1 2 (.b 1 3 (.b 0 4 (.f) .o) .o) .o) .o) .o) _ _ (by kernel_rfl) (by kernel_rfl) ?_
    simp only [go_sem, Nat.reduceLT]
    refine CallQ.F _ (fun h' n' hn' hx' => isDarkness_Q _ h' n' least) ?_
    simp only [go_sem, Nat.reduceLT]
    refine CallQ.F _ (fun h' n' hn' hx' => codeSt_Q _ h' n' .nils [] (.inl ⟨rfl, rfl⟩) (fun i hi => absurd hi (Nat.not_lt_zero i)) (by simp) _) ?_
    by_cases hl : 1 ≤ least ∧ least ≤ 3000
    · rw [hcode, decide_eq_true hl]
      have e : seenR [] least = ([], 0) := by unfold seenR; rw [hst, if_pos rfl, if_pos hl, if_pos (show ([] : List Sh).length = 0 from rfl)]
      rw [e]
      simp only [go_sem, Nat.reduceLT, reduceIte, e0]
    · rw [hcode, decide_eq_false hl]
      have e : seenR [] least = ([], 2) := by unfold seenR; rw [hst, if_pos rfl, if_neg hl]
      rw [e]
      simp only [go_sem, Nat.reduceLT, reduceIte, Int.reduceEq, e0]
  · refine callQ_of_T (P := Try.prog) hti (nt := 21) (rs := [.tmp 4, .tmp 5]) rfl rfl Try.call7 Try.func7 rfl _ (by simp only [go_sem, and_self]) (Nat.le_of_ble_eq_true rfl) _ (by first | exact trivial | (refine lt_flat rfl ?_; simp [SV.flat]; done) | simp only [go_sem]) fun hok => ?_
    simp only [go_sem, Nat.reduceLT]
    refine T_drawG hti 5 [] (.b 0 0 (.b 0 1 (.b 1 2 (.b 1 3 (.b 0 4 (.f) .o) .o) .o) .o) .o) _ _ (by kernel_rfl) (by kernel_rfl) ?_
    simp only [go_sem, Nat.reduceLT]
    refine CallQ.F _ (fun h' n' hn' hx' => isDarkness_Q _ h' n' least) ?_
    simp only [go_sem, Nat.reduceLT]
    refine CallQ.F _ (fun h' n' hn' hx' => codeSt_Q _ h' n' (.sl i 0 L.length cap) L (.inr ⟨i, cap, s, rfl, by omega, hx' i (by omega) _ (by first | (simp only [go_sem, hs, hi]; done) | (simp only [go_sem, Nat.reduceBEq, Nat.reduceLT, Nat.reduceLeDiff, Nat.reduceAdd, Nat.reduceMul, Nat.reduceSub, Nat.reduceMod, Nat.reduceDiv, Nat.reduceEqDiff, Int.reduceToNat, reduceIte, reduceCtorEq, Int.reduceLE, Int.reduceLT, Int.reduceEq, Int.reduceNeg, Int.reduceAdd, Int.reduceSub, Int.reduceMul, hs, hi]; rfl)), hL⟩) hLR hm9 _) ?_
    rw [hcode]
    by_cases hk : stokB L = true
    rotate_left
    · have e : seenR L least = ([], 1) := by unfold seenR; rw [if_neg hk]
      have hk : stokB L = false := by simpa using hk
      rw [e, hk]
      simp only [go_sem, Nat.reduceLT, reduceIte, Int.reduceEq, e0]
    by_cases hl : 1 ≤ least ∧ least ≤ 3000
    rotate_left
    · rw [hk, decide_eq_false hl]
      have e : seenR L least = ([], 2) := by unfold seenR; rw [if_pos hk, if_neg hl]
      rw [e]
      simp only [go_sem, Nat.reduceLT, reduceIte, Int.reduceEq, e0]
    rw [hk, decide_eq_true hl]
    by_cases hL0 : L.length = 0
    · have e : seenR L least = ([], 0) := by unfold seenR; rw [if_pos hk, if_pos hl, if_pos hL0]
      rw [e]
      have hz : ((L.length : Int) = 0) = True := eq_true (by omega)
      simp only [go_sem, Nat.reduceLT, reduceIte, e0, hz]
    have hokL : StOk L := by simpa [stokB] using hk
    have hz : ((L.length : Int) = 0) = False := eq_false (by omega)
    have hA0 := hL.sh hLR (i := 0) (by omega)
    have hV0 := (hokL.2 0 (by omega)).1
    have hsm := hV0.1
    obtain ⟨W, hW⟩ : ∃ W : Nat, (L.getD 0 sh0).wide = W := ⟨(L.getD 0 sh0).wide.toNat, by have := hsm.1; omega⟩
    obtain ⟨H, hH⟩ : ∃ H : Nat, (L.getD 0 sh0).high = H := ⟨(L.getD 0 sh0).high.toNat, by have := hsm; unfold Small at this; omega⟩
    have e : seenR L least = (linesK W [] (fun x y => seeL L least x y) H, 0) := by unfold seenR; rw [if_pos hk, if_pos hl, if_neg hL0, hW, hH]; rfl
    rw [e]
    simp only [go_sem, Nat.reduceLT, Nat.reduceMul, Int.reduceToNat, reduceIte, Int.reduceLE, hz]
    refine ⟨by omega, ?_⟩
    have hgi : hget ((n + 1, ⟨1, cl [.int .i64 least], true, none⟩) :: (n, ⟨1, cl [.sl i 0 L.length cap], true, none⟩) :: h) i = some s := (by first | (simp only [go_sem, hs, hi]; done) | (simp only [go_sem, Nat.reduceBEq, Nat.reduceLT, Nat.reduceLeDiff, Nat.reduceAdd, Nat.reduceMul, Nat.reduceSub, Nat.reduceMod, Nat.reduceDiv, Nat.reduceEqDiff, Int.reduceToNat, reduceIte, reduceCtorEq, Int.reduceLE, Int.reduceLT, Int.reduceEq, Int.reduceNeg, Int.reduceAdd, Int.reduceSub, Int.reduceMul, hs, hi]; rfl))
    have hw := hA0.wide
    have hh := hA0.high
    rw [Nat.zero_mul, hW] at hw
    rw [Nat.zero_mul, Nat.zero_add, hH] at hh
    unfold Small at hsm
    rw [e0]
    refine (lines_Q _ _ _ i 0 s W H [] 16 0 2 (cl []) (cl [.ptr n 0, .ptr (n + 1) 0]) (fun x y => seeL L least x y) hgi (by omega) (by have := hA0.1; omega) hw hh (by omega) (by omega) (by omega) (by omega) (by simp) (fun x y => by rw [seeL_len]; omega) ⟨fun j hj => absurd hj (Nat.not_lt_zero j), fun j hj => ?_⟩ fun x y hx hy w0 nt n0 h' n' hn' hx' => ?_).A ?_
    · have hj : j < 2 := hj
      match j with
      | 0 => show n < n + 2; omega
      | 1 => show n + 1 < n + 2; omega
      | j + 2 => omega
    · exact seen1_Q _ h' n' n (n + 1) i cap L least x y (roS s) _ _ (hx' n (by omega) _ (ro_some (by first | (simp only [go_sem]; done) | (simp only [go_sem]; rfl)))) (by omega) rfl rfl (hx' (n + 1) (by omega) _ (ro_some (hget_hit _ _ _))) (by omega) rfl rfl (hx' i (by omega) _ (ro_some hgi)) (by omega) hL hLR hokL (by omega) (by omega) (by omega) (by omega)
    · simp only [go_sem, Nat.reduceLT]
      done
end
end Go.Proofs.Ytckefhnobflhcaa.V

/- SeenThrough: the reference: the walks; the law. -/
namespace Go.Proofs.Ytckefhnobflhcaa.V
section
variable (cx : Cx) (h : List (Nat × Seg)) (n : Nat)
set_option maxRecDepth 10000 in
theorem darkO_Q (i o : Nat) (s : Seg) (S : Sh) (x y : Int) (hs : hget h i = some s) (hi : i < n) (hS : ShAt s o S) (hG : Good S) (hx : 0 ≤ x) (hx8 : x < 8) (hy : 0 ≤ y) (hy8 : y < 8) :
    CallQ Try.prog cx 24 [.ptr i o, spot x y] h n (.int .i64 (darkB S x y)) := by
  have h0 := hG.dye y x 0 hy hy8 hx hx8 (by omega) (by omega)
  have h1 := hG.dye y x 1 hy hy8 hx hx8 (by omega) (by omega)
  have h2 := hG.dye y x 2 hy hy8 hx hx8 (by omega) (by omega)
  have e0 := hS.dyeN 0 hy hy8 hx hx8 (by omega)
  have e1 := hS.dyeN 1 hy hy8 hx hx8 (by omega)
  have e2 := hS.dyeN 2 hy hy8 hx hx8 (by omega)
  have hl := hS.1
  simp only [Nat.add_zero, Int.natCast_zero, Int.natCast_one] at e0 e1 e2 hl
  have e2' : s.c (o + 66 + y.toNat * 24 + x.toNat * 3 + 2) = .int .i16 (S.dye y x 2) := e2
  have l0 : o + 66 + y.toNat * 24 + x.toNat * 3 ≤ s.n - 3 := by omega
  have l1 : o + 66 + y.toNat * 24 + x.toNat * 3 + 3 ≤ s.n := by omega
  have l2 : 3 ≤ s.n := by omega
  refine callQ_of_T (P := Try.prog) hti (nt := 27) (rs := [.tmp 4]) rfl rfl Try.call24 Try.func24 rfl _ (by simp only [go_sem, and_self]) (Nat.le_of_ble_eq_true rfl) _ (by first | exact trivial | (refine lt_flat rfl ?_; simp [SV.flat]; done) | simp only [go_sem]) fun hok => ?_
  simp only [go_sem, Nat.reduceLT]
  refine T_drawG hti 12 [11] (.b 0 0 (.b 0 1 (.b 0 2 (.b 0 3 (.b 0 4 (.b 0 5 (.b 0 6 (.b 0 7 (.b 0 8 (.b 0 9 (.b 2 10 (.b 4 11 (.f) .o) .o) .o) .o) .o) .o) .o) .o) .o) .o) .o) .o) _ _ (by kernel_rfl) (by kernel_rfl) ?_
  simp only [go_sem, Nat.reduceLT, Nat.reduceLeDiff, Nat.reduceEqDiff, Int.reduceToNat, reduceIte, reduceCtorEq, Int.reduceLE, Int.reduceLT, hs, hi, hx, hx8, hy, hy8, e0, e1, e2', l0, l1, l2, w64 (n := S.dye y x 0) (by omega), w64 (n := S.dye y x 1) (by omega), w64 (n := S.dye y x 2) (by omega), w64 (n := S.dye y x 0 + S.dye y x 1) (by omega), w64 (n := S.dye y x 0 + S.dye y x 1 + S.dye y x 2) (by omega)]
  rfl
set_option maxRecDepth 10000 in
theorem letter5_Q (i cap : Nat) (L : List Sh) (least x y : Int) (s : Seg) (hs : hget h i = some s) (hi : i < n) (hL : StAt s L) (hLR : StR L) (hok : StOk L) (hx : 0 ≤ x) (hx8 : x < 8) (hy : 0 ≤ y) (hy8 : y < 8) :
    CallQ Try.prog cx 11 [.sl i 0 L.length cap, spot x y, .int .i64 least] h n (.str (S8 (seeL L least x y))) := by
  refine callQ_of_T (P := Try.prog) hti (nt := 46) (rs := [.tmp 6]) rfl rfl Try.call11 Try.func11 rfl _ (by simp only [go_sem, and_self]) (Nat.le_of_ble_eq_true rfl) _ (by first | exact trivial | (refine lt_flat rfl ?_; simp [SV.flat]; done) | simp only [go_sem]) fun hok0 => ?_
  simp only [go_sem, Nat.reduceLT]
  refine T_lp (ι := { q : Nat // q ≤ L.length ∧ seeL L least x y = seeL (L.drop q) least x y })
    (fun q => ([(0, .sl i 0 L.length cap), (2, .int .i64 least), (4, .ptr n 0), (7, .str ⟨#[46, 97, 98, 99, 109]⟩), (8, .int .i64 q.1)], (n, ⟨2, cl [.int .i8 x, .int .i8 y], true, none⟩) :: h, n + 1)) (fun q => L.length - q.1) ⟨0, Nat.zero_le _, rfl⟩ ?_ ?_
  · refine Imp.id (by simp) ?_ (impH.cons0 (hget_hit _ _ _) (by simp) (SegLe.flat (Nat.le_refl _) id (.inr rfl) fun k hk => ⟨rfl, pair_flat _ _ hk⟩) (impH.base0 hok0 (by simp) (by simp only [go_sem, HExt_cons])))
    simp only [go_sem, Nat.reduceLT]
    (repeat' apply And.intro) <;> first | omega | rfl | trivial | assumption | skip
  rintro ⟨q, hq, hse⟩
  simp only [go_sem, Nat.reduceLT, decide_eq_true_eq, decide_eq_false_iff_not]
  refine ⟨fun h1 => ?_, fun h1 => ?_⟩
  rotate_left
  · have e : q = L.length := by omega
    subst e
    rw [List.drop_length] at hse
    have e46 : (⟨#[46]⟩ : ByteArray) = S8 [46] := rfl
    simp only [go_sem, hse, e46]
    rfl
  have hql : q < L.length := by omega
  have hA := hL.sh hLR hql
  have hV := (hok.2 q hql).1
  rw [seeL_step hql] at hse
  have hl6 := hok.1
  have hn2 := hA.1
  have b1 : (0 : Int) ≤ q ∧ (q : Int) < L.length := ⟨by omega, by omega⟩
  have b2 : q * 266 ≤ s.n - 266 := by omega
  have b3 : 266 ≤ s.n := by omega
  have hsi : hget ((n, ⟨2, cl [.int .i8 x, .int .i8 y], true, none⟩) :: h) i = some s := (by first | (simp only [go_sem, hs, hi]; done) | (simp only [go_sem, Nat.reduceBEq, Nat.reduceLT, Nat.reduceLeDiff, Nat.reduceAdd, Nat.reduceMul, Nat.reduceSub, Nat.reduceMod, Nat.reduceDiv, Nat.reduceEqDiff, Int.reduceToNat, reduceIte, reduceCtorEq, Int.reduceLE, Int.reduceLT, Int.reduceEq, Int.reduceNeg, Int.reduceAdd, Int.reduceSub, Int.reduceMul, hs, hi]; rfl))
  refine T_drawG hti 5 [] (.b 0 0 (.b 0 1 (.b 0 2 (.b 0 3 (.b 1 4 (.f) .o) .o) .o) .o) .o) _ _ (by kernel_rfl) (by kernel_rfl) ?_
  simp only [go_sem, Nat.reduceLT, b1, b2, b3, hsi]
  refine CallQ.F _ (fun h' n' hn' hx' => waxed2_Q _ h' n' i (q * 266) s (L.getD q sh0) x y (hx' i (by omega) _ hsi) (by omega) hA hx (by omega) hy hy8) ?_
  cases hwx : waxB (L.getD q sh0) x y
  rotate_left
  · rw [hwx, if_pos rfl] at hse
    have e119 : (⟨#[119]⟩ : ByteArray) = S8 [119] := rfl
    simp only [go_sem, Nat.reduceLT, e119, hse]
  rw [hwx, if_neg (by simp)] at hse
  simp only [go_sem]
  refine T_drawG hti 7 [] (.b 0 0 (.b 0 1 (.b 0 2 (.b 0 3 (.b 0 5 (.b 1 4 (.b 0 6 (.f) .o) .o) .o) .o) .o) .o) .o) _ _ (by kernel_rfl) (by kernel_rfl) ?_
  simp only [go_sem, Nat.reduceLT, b1, b2, b3, hsi]
  refine CallQ.F _ (fun h' n' hn' hx' => darkO_Q _ h' n' i (q * 266) s (L.getD q sh0) x y (hx' i (by omega) _ hsi) (by omega) hA hV.good hx hx8 hy hy8) ?_
  by_cases hd : least ≤ darkB (L.getD q sh0) x y
  rotate_left
  · rw [if_neg hd] at hse
    simp only [go_sem, Nat.reduceLT, hd]
    refine ⟨⟨q + 1, by omega, hse⟩, by show L.length - (q + 1) < L.length - q; omega, ?_⟩
    refine Imp.id (by simp) ?_ (impH.cons0 (hget_hit _ _ _) (by simp) (SegLe.flat (Nat.le_refl _) id (.inr rfl) fun k hk => ⟨rfl, pair_flat _ _ hk⟩) (impH.base0 hok0 (by simp) (by simp only [go_sem, HExt_cons])))
    simp only [go_sem, Nat.reduceLT, w64 (n := (q : Int) + 1) (by omega), Int.natCast_add, Int.natCast_one]
    (repeat' apply And.intro) <;> first | omega | rfl | trivial | assumption | skip
  rw [if_pos hd] at hse
  have g0 := hV.good.dye y x 0 hy hy8 hx hx8 (by omega) (by omega)
  have g1 := hV.good.dye y x 1 hy hy8 hx hx8 (by omega) (by omega)
  have g2 := hV.good.dye y x 2 hy hy8 hx hx8 (by omega) (by omega)
  have e0 := hA.dyeN 0 hy hy8 hx hx8 (by omega)
  have e1 := hA.dyeN 1 hy hy8 hx hx8 (by omega)
  have e2 := hA.dyeN 2 hy hy8 hx hx8 (by omega)
  simp only [Nat.add_zero, Int.natCast_zero, Int.natCast_one] at e0 e1 e2
  have e2' : s.c (q * 266 + 66 + y.toNat * 24 + x.toNat * 3 + 2) = .int .i16 ((L.getD q sh0).dye y x 2) := e2
  have l0 : q * 266 + 66 + y.toNat * 24 + x.toNat * 3 ≤ s.n - 3 := by omega
  have l1 : q * 266 + 66 + y.toNat * 24 + x.toNat * 3 + 3 ≤ s.n := by omega
  have l2 : 3 ≤ s.n := by omega
  have hin : i < n + 1 := by omega
  simp only [go_sem, Nat.reduceLT, hd]
  refine T_drawG hti 13 [] (.b 0 0 (.b 0 1 (.b 0 2 (.b 0 3 (.b 0 4 (.b 0 5 (.b 0 6 (.b 0 7 (.b 0 8 (.b 0 9 (.b 0 10 (.b 1 11 (.b 0 12 (.f) .o) .o) .o) .o) .o) .o) .o) .o) .o) .o) .o) .o) .o) _ _ (by kernel_rfl) (by kernel_rfl) ?_
  simp only [go_sem, Nat.reduceLT, Nat.reduceLeDiff, reduceCtorEq, b1, b2, b3, hsi, hin, hx, hx8, hy, hy8, e0, e1, e2', l0, l1, l2]
  refine CallQ.F _ (fun h' n' hn' hx' => colour2_Q _ h' n' _ _ _ (by omega) (by omega) (by omega)) ?_
  have hcs : colD ((L.getD q sh0).dye y x 0) ((L.getD q sh0).dye y x 1) ((L.getD q sh0).dye y x 2) = colS (L.getD q sh0) x y := rfl
  rcases colD_in ((L.getD q sh0).dye y x 0) ((L.getD q sh0).dye y x 1) ((L.getD q sh0).dye y x 2) with e | e | e | e | e
  · rw [← hcs, e] at hse
    rw [e]
    have hse : seeL L least x y = [46] := hse
    rw [hse]
    have ex : (⟨#[46, 97, 98, 99, 109]⟩ : ByteArray).extract 0 1 = S8 [46] := rfl
    simp only [go_sem, Nat.reduceLT, Int.reduceToNat, Int.reduceLE, Int.reduceLT, Int.reduceNeg, Int.reduceAdd, show IntKind.i64.wrap (-1 + 1) = 0 from rfl, show IntKind.i64.wrap (-1 + 2) = 1 from rfl, ex]
    try decide
  · rw [← hcs, e] at hse
    rw [e]
    have hse : seeL L least x y = [97] := hse
    rw [hse]
    have ex : (⟨#[46, 97, 98, 99, 109]⟩ : ByteArray).extract 1 2 = S8 [97] := rfl
    simp only [go_sem, Nat.reduceLT, Int.reduceToNat, Int.reduceLE, Int.reduceLT, Int.reduceNeg, Int.reduceAdd, show IntKind.i64.wrap (0 + 1) = 1 from rfl, show IntKind.i64.wrap (0 + 2) = 2 from rfl, ex]
    try decide
  · rw [← hcs, e] at hse
    rw [e]
    have hse : seeL L least x y = [98] := hse
    rw [hse]
    have ex : (⟨#[46, 97, 98, 99, 109]⟩ : ByteArray).extract 2 3 = S8 [98] := rfl
    simp only [go_sem, Nat.reduceLT, Int.reduceToNat, Int.reduceLE, Int.reduceLT, Int.reduceNeg, Int.reduceAdd, show IntKind.i64.wrap (1 + 1) = 2 from rfl, show IntKind.i64.wrap (1 + 2) = 3 from rfl, ex]
    try decide
  · rw [← hcs, e] at hse
    rw [e]
    have hse : seeL L least x y = [99] := hse
    rw [hse]
    have ex : (⟨#[46, 97, 98, 99, 109]⟩ : ByteArray).extract 3 4 = S8 [99] := rfl
    simp only [go_sem, Nat.reduceLT, Int.reduceToNat, Int.reduceLE, Int.reduceLT, Int.reduceNeg, Int.reduceAdd, show IntKind.i64.wrap (2 + 1) = 3 from rfl, show IntKind.i64.wrap (2 + 2) = 4 from rfl, ex]
    try decide
  · rw [← hcs, e] at hse
    rw [e]
    have hse : seeL L least x y = [109] := hse
    rw [hse]
    have ex : (⟨#[46, 97, 98, 99, 109]⟩ : ByteArray).extract 4 5 = S8 [109] := rfl
    simp only [go_sem, Nat.reduceLT, Int.reduceToNat, Int.reduceLE, Int.reduceLT, Int.reduceNeg, Int.reduceAdd, show IntKind.i64.wrap (3 + 1) = 4 from rfl, show IntKind.i64.wrap (3 + 2) = 5 from rfl, ex]
    try decide
end
end Go.Proofs.Ytckefhnobflhcaa.V

/- SeenThrough: the reference's walk; the law. -/
namespace Go.Proofs.Ytckefhnobflhcaa.V
theorem join_flat (L : List (List UInt8)) : Lib.join L [] = L.flatten := by
  cases L with
  | nil => rfl
  | cons a L => rw [Lib.join_cons]; simp [Lib.joinTail]
theorem flat_len (least : Int) (L : List Sh) (y : Int) : ∀ k : Nat, (((List.range k).map fun x : Nat => seeL L least x y).flatten).length = k
  | 0 => rfl
  | k + 1 => by
    rw [List.range_succ, List.map_append, List.flatten_append, List.length_append, flat_len least L y k]
    simp [seeL_len]
section
variable (cx : Cx) (h : List (Nat × Seg)) (n : Nat)
set_option maxRecDepth 10000 in
theorem seen2_Q (A : SV) (L : List Sh) (least : Int) (hA : StArg h n A L) (hLR : StR L) (hm9 : L.length ≤ 10000000) :
    CallQ Try.prog cx 5 [A, .int .i64 least] h n (.tup 2 (cl [.str (S8 (seenR L least).1), .int .i64 (seenR L least).2])) := by
  have e0 : (⟨#[]⟩ : ByteArray) = S8 [] := rfl
  have hA0 := hA
  rcases hA with ⟨rfl, rfl⟩ | ⟨i, cap, s, rfl, hi, hs, hL⟩
  · have hst : stokB ([] : List Sh) = true := by simp [stokB, StOk]
    refine callQ_of_T (P := Try.prog) hti (nt := 46) (rs := [.tmp 4, .tmp 5]) rfl rfl Try.call5 Try.func5 rfl _ (by simp only [go_sem, and_self]) (Nat.le_of_ble_eq_true rfl) _ (by first | exact trivial | (refine lt_flat rfl ?_; simp [SV.flat]; done) | simp only [go_sem]) fun hok => ?_
    simp only [go_sem, Nat.reduceLT]
    refine (stok2_Q _ _ _ .nils [] hA0 hLR hm9).A ?_
    simp only [go_sem, Nat.reduceLT, hst]
    refine (least2_Q _ _ _ least).A ?_
    by_cases hl : 1 ≤ least ∧ least ≤ 3000
    · have e : seenR [] least = ([], 0) := by unfold seenR; rw [hst, if_pos rfl, if_pos hl, if_pos (show ([] : List Sh).length = 0 from rfl)]
      rw [e]
      simp only [go_sem, Nat.reduceLT, e0, hl]
    · have e : seenR [] least = ([], 2) := by unfold seenR; rw [hst, if_pos rfl, if_neg hl]
      rw [e, decide_eq_false hl]
      simp only [go_sem, Nat.reduceLT, e0]
  · refine callQ_of_T (P := Try.prog) hti (nt := 46) (rs := [.tmp 4, .tmp 5]) rfl rfl Try.call5 Try.func5 rfl _ (by simp only [go_sem, and_self]) (Nat.le_of_ble_eq_true rfl) _ (by first | exact trivial | (refine lt_flat rfl ?_; simp [SV.flat]; done) | simp only [go_sem]) fun hok => ?_
    simp only [go_sem, Nat.reduceLT]
    refine (stok2_Q _ _ _ _ L hA0 hLR hm9).A ?_
    by_cases hk : stokB L = true
    rotate_left
    · have e : seenR L least = ([], 1) := by unfold seenR; rw [if_neg hk]
      have hk : stokB L = false := by simpa using hk
      rw [e, hk]
      simp only [go_sem, Nat.reduceLT, e0]
    simp only [go_sem, Nat.reduceLT, hk]
    refine (least2_Q _ _ _ least).A ?_
    by_cases hl : 1 ≤ least ∧ least ≤ 3000
    rotate_left
    · have e : seenR L least = ([], 2) := by unfold seenR; rw [if_pos hk, if_neg hl]
      rw [e, decide_eq_false hl]
      simp only [go_sem, Nat.reduceLT, e0]
    by_cases hL0 : L.length = 0
    · have e : seenR L least = ([], 0) := by unfold seenR; rw [if_pos hk, if_pos hl, if_pos hL0]
      rw [e]
      have hz : ((L.length : Int) = 0) = True := eq_true (by omega)
      simp only [go_sem, Nat.reduceLT, e0, hl, hz]
    have hokL : StOk L := by simpa [stokB] using hk
    have hz : ((L.length : Int) = 0) = False := eq_false (by omega)
    have hA1 := hL.sh hLR (i := 0) (by omega)
    have hV0 := (hokL.2 0 (by omega)).1
    have hsm := hV0.1
    unfold Small at hsm
    obtain ⟨W, hW⟩ : ∃ W : Nat, (L.getD 0 sh0).wide = W := ⟨(L.getD 0 sh0).wide.toNat, by omega⟩
    obtain ⟨H, hH⟩ : ∃ H : Nat, (L.getD 0 sh0).high = H := ⟨(L.getD 0 sh0).high.toNat, by omega⟩
    have e : seenR L least = (linesK W [] (fun x y => seeL L least x y) H, 0) := by unfold seenR; rw [if_pos hk, if_pos hl, if_neg hL0, hW, hH]; rfl
    rw [e]
    have hw := hA1.wide
    have hh := hA1.high
    rw [Nat.zero_mul, hW] at hw
    rw [Nat.zero_mul, Nat.zero_add, hH] at hh
    have hn2 := hA1.1
    rw [Nat.zero_mul] at hn2
    simp only [go_sem, Nat.reduceLT, hl, hz]
    refine T_lp (ι := { q : Nat // q ≤ H }) (fun q => ([(0, .sl i 0 L.length cap), (1, .int .i64 least), (6, .str (S8 (linesK W [] (fun x y => seeL L least x y) q.1))), (7, .int .i8 q.1)], h, n)) (fun q => H - q.1) ⟨0, Nat.zero_le _⟩ ?_ ?_
    · refine Imp.id (by simp) ?_ (impH.base0 hok (by simp) HExt.rfl)
      simp only [go_sem, Nat.reduceLT, e0, linesK]
      exact hi
    rintro ⟨y, hy⟩
    have hll := linesK_le (W := W) (sep := []) (wd := fun x y => seeL L least x y) (by simp) (fun x y => by rw [seeL_len]; omega) (by omega) y
    have b1 : (0 : Int) < L.length := by omega
    have b2 : 1 ≤ s.n := by omega
    have b3 : 2 ≤ s.n := by omega
    have b4 : 0 < s.n := by omega
    have b5 : 1 < s.n := by omega
    have b6 : 266 ≤ s.n := by omega
    simp only [go_sem, Nat.reduceLT, Nat.reduceMul, Int.reduceToNat, reduceCtorEq, Int.reduceLE, hs, hi, hh, b1, b2, b3, b4, b5, b6, decide_eq_true_eq, decide_eq_false_iff_not]
    refine ⟨fun h1 => ?_, fun h1 => ?_⟩
    rotate_left
    · have e : y = H := by omega
      subst e
      rfl
    refine T_lp (ι := { q : Nat // q ≤ W }) (fun q => ([(0, .sl i 0 L.length cap), (1, .int .i64 least), (6, .str (S8 (linesK W [] (fun x y => seeL L least x y) y ++ ((List.range q.1).map fun x : Nat => seeL L least x y).flatten))), (7, .int .i8 y), (8, .int .i8 q.1)], h, n)) (fun q => W - q.1) ⟨0, Nat.zero_le _⟩ ?_ ?_
    · refine Imp.id (by simp) ?_ (impH.base0 hok (by simp) HExt.rfl)
      simp only [go_sem, Nat.reduceLT, List.range_zero, List.map_nil, List.flatten_nil, List.append_nil]
      exact hi
    rintro ⟨x, hx⟩
    have hfl := flat_len least L y x
    have hfs : ((List.range (x + 1)).map fun x : Nat => seeL L least x y).flatten = ((List.range x).map fun x : Nat => seeL L least x y).flatten ++ seeL L least x y := by
      rw [List.range_succ, List.map_append, List.flatten_append]
      simp
    simp only [go_sem, Nat.reduceLT, Nat.reduceLeDiff, Nat.reduceMul, Int.reduceToNat, reduceCtorEq, Int.reduceLE, hs, hi, hw, b1, b2, b3, b4, b5, b6, decide_eq_true_eq, decide_eq_false_iff_not]
    refine ⟨fun h2 => ?_, fun h2 => ?_⟩
    · refine (letter5_Q _ _ _ i cap L least x y s hs hi hL hLR hokL (by omega) (by omega) (by omega) (by omega)).A ?_
      have hsl := seeL_len least x y L
      simp only [go_sem, Nat.reduceLT, List.append_assoc]
      refine ⟨by rw [List.length_append]; omega, ⟨x + 1, by omega⟩, by show W - (x + 1) < W - x; omega, ?_⟩
      refine Imp.id (by simp) ?_ (impH.base0 hok (by simp) HExt.rfl)
      simp only [go_sem, Nat.reduceLT, hfs, List.append_assoc, w8 (n := (x : Int) + 1) (by omega), Int.natCast_add, Int.natCast_one]
      exact ⟨hi, by simp⟩
    · have e : x = W := by omega
      subst e
      have e10 : (⟨#[10]⟩ : ByteArray) = S8 [10] := rfl
      have hrow : linesK x [] (fun x y => seeL L least x y) (y + 1) = linesK x [] (fun x y => seeL L least x y) y ++ ((List.range x).map fun x : Nat => seeL L least x y).flatten ++ [10] := by
        rw [linesK, rowL, join_flat, List.append_assoc]
      simp only [go_sem, e10]
      refine ⟨by rw [List.length_append, hfl]; show _ + _ + 1 ≤ _; omega, ⟨y + 1, by omega⟩, by show H - (y + 1) < H - y; omega, ?_⟩
      refine Imp.id (by simp) ?_ (impH.base0 hok (by simp) HExt.rfl)
      simp only [go_sem, Nat.reduceLT, hrow, w8 (n := (y : Int) + 1) (by omega), Int.natCast_add, Int.natCast_one]
      exact hi
theorem lawSeen_Q (A : SV) (L : List Sh) (hA : StArg h n A L) (hLR : StR L) (hm : L.length ≤ 9223372036854775807) (least : Int) :
    CallQ Try.prog cx 3 [A, .int .i64 least] h n (.bool true) := by
  have hAo := hA.ok
  refine callQ_of_T (P := Try.prog) hti (nt := 44) (rs := [.tmp 4]) rfl rfl Try.call3 Try.func3 rfl _ (by first | (simp only [go_sem, hAo]; done) | (simp only [go_sem, hAo, hBo]; done)) (Nat.le_of_ble_eq_true rfl) _ (by trivial) fun hok => ?_
  simp only [go_sem, Nat.reduceLT, hAo]
  refine (szStack_Q _ _ _ A L hA 1048576 (by omega) (by omega)).A ?_
  by_cases hs : 1048576 - (L.length : Int) < 0
  · simp only [go_sem, Nat.reduceLT, reduceIte, Int.reduceLT, Int.reduceNeg, hAo, hs]
  have hm9 : L.length ≤ 10000000 := by omega
  simp only [go_sem, Nat.reduceLT, reduceIte, Int.reduceNeg, hAo, hs]
  refine callA_false (toStack_E _ _ _ A L hA hLR hm9 _ ?_)
  simp only [go_sem, Nat.reduceLT, hAo]
  refine (seen2_Q _ _ _ (.sl n 0 L.length L.length) L least (.inr ⟨n, L.length, _, rfl, by omega, hget_hit _ _ _, Nat.le_refl _, fun _ _ => rfl⟩) hLR hm9).A ?_
  simp only [go_sem, Nat.reduceLT, hAo]
  refine callA_false (toStack_E _ _ _ A L (hA.ext (by omega) (by simp only [go_sem, HExt_cons])) hLR hm9 _ ?_)
  simp only [go_sem, Nat.reduceLT, hAo]
  refine (seen_Q _ _ _ (.sl (n + 1) 0 L.length L.length) L least (.inr ⟨n + 1, L.length, _, rfl, by omega, hget_hit _ _ _, Nat.le_refl _, fun _ _ => rfl⟩) hLR hm9).A ?_
  simp only [go_sem, Nat.reduceLT, hAo]
  refine callA_false (toStack_E _ _ _ A L (hA.ext (by omega) (by simp only [go_sem, HExt_cons])) hLR hm9 _ ?_)
  simp only [go_sem, Nat.reduceLT, hAo]
  refine (eqStack_Q _ _ _ (n + 1) L.length (n + 2) L.length L _ _ (by first | (simp only [go_sem, Nat.reduceLT]; done) | (simp only [go_sem, Nat.reduceLT]; rfl)) (by omega) ⟨Nat.le_refl _, fun _ _ => rfl⟩ (hget_hit _ _ _) (by omega) ⟨Nat.le_refl _, fun _ _ => rfl⟩ hLR hm9).A ?_
  simp only [go_sem, Nat.reduceLT, hAo]
  done
end
end Go.Proofs.Ytckefhnobflhcaa.V
