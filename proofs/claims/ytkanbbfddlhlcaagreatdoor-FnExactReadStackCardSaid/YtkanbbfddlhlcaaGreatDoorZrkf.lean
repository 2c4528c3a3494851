/- Part 6 of the texts that this proof stands on: a symbolic walk over the program, what its functions and the reference's do, plain laws. -/
import Derived.Test.YtkanbbfddlhlcaaGreatDoorV20
import Derived.Test.YtkanbbfddlhlcaaGreatDoorSh
import Derived.Test.YtkanbbfddlhlcaaGreatDoorTi
import Derived.Test.YtkanbbfddlhlcaaGreatDoorZrka
import Derived.Lib.SplitLaws
import Derived.Lib.Strings
import Derived.Laws.IdiomStrings
import Derived.Lib.SmallJoins
import Derived.Lib.ItoaNum
import Derived.Test.YtkanbbfddlhlcaaGreatDoorZrkb
import Derived.Lib.Replace
import Derived.Test.YtkanbbfddlhlcaaGreatDoorZrke
import Derived.Test.YtkanbbfddlhlcaaGreatDoorZrkc
import Derived.Lib.ParseIntB
import Derived.Lib.IndexMore
import Derived.Lib.ConvBytes
import Derived.WalkSmall
set_option linter.all false

/- strings.Join and strings.Builder: contracts (out of the kit's shelf), and a quiet call walked in a frame of its own. -/
namespace Go.Proofs.YtkanbbfddlhlcaaGreatDoor.V
/-- A string, by its bytes. -/
def S8 (b : List UInt8) : ByteArray := ⟨b.toArray⟩
@[go_sem] theorem S8_add (a b : List UInt8) : S8 a ++ S8 b = S8 (a ++ b) := by
  apply ByteArray.ext
  simp [S8]
@[go_sem] theorem S8_size (a : List UInt8) : (S8 a).size = a.length := by simp [S8, ByteArray.size]
theorem S8_list (a : List UInt8) : (S8 a).data.toList = a := by simp [S8]
/-- A memory that may only be read, of which no row is one's own. -/
def roS (s : Seg) : Seg := ⟨s.n, s.c, false, none⟩
def ro (h : List (Nat × Seg)) : List (Nat × Seg) := h.map fun p => (p.1, roS p.2)
theorem hget_ro (h : List (Nat × Seg)) (i : Nat) : hget (ro h) i = (hget h i).map roS := by
  induction h with
  | nil => rfl
  | cons p h ih =>
    obtain ⟨k, s⟩ := p
    show (if k = i then some (roS s) else hget (ro h) i) = _
    simp only [hget]
    by_cases e : k = i
    · rw [if_pos e, if_pos e]; rfl
    · rw [if_neg e, if_neg e]; exact ih
theorem ro_some {h : List (Nat × Seg)} {i : Nat} {s : Seg} (hs : hget h i = some s) : hget (ro h) i = some (roS s) := by rw [hget_ro, hs]; rfl
/-- Strings in a row. -/
def strsC (L : List (List UInt8)) : Nat → SV := fun k => .str (S8 (L.getD k []))
section
variable (cx : Cx) (h : List (Nat × Seg)) (n : Nat)
theorem join_Q (i cap : Nat) (L : List (List UInt8)) (sep : List UInt8) (s : Seg) (hs : hget h i = some s) (hi : i < n) (hn : L.length ≤ s.n) (hc : ∀ k, k < L.length → s.c k = strsC L k) (hcap : L.length ≤ cap) (h9 : L.length ≤ 1000000)
    (hl : (Lib.join L sep).length ≤ 100000000) : CallQ Tryz.prog cx 29 [.sl i 0 L.length cap, .str (S8 sep)] h n (.str (S8 (Lib.join L sep))) := by
  refine ⟨Tryz.call29, by simp only [go_sem, and_self], trivial, fun ρ w sh _ => ?_⟩
  have hseg := sh.seg i s hs
  have e1 : (L.map S8).map (·.data.toList) = L := by
    rw [List.map_map]
    have : ((fun x : ByteArray => x.data.toList) ∘ S8) = id := by funext a; exact S8_list a
    rw [this, List.map_id]
  have := Tryz.strings_Join (ρ i).1 (ρ i).2 cap (L.map S8) (S8 sep) w (fun j x hx => by
    rw [List.getElem?_map] at hx
    cases hL : L[j]? with
    | none => rw [hL] at hx; cases hx
    | some b =>
      rw [hL] at hx
      cases hx
      have hj : j < L.length := (List.getElem?_eq_some_iff.1 hL).1
      have := hseg.cells j (by omega)
      rw [hc j hj] at this
      rw [this]
      show some (Value.string (S8 (L.getD j []))) = _
      rw [List.getD_eq_getElem?_getD, hL]; rfl) hseg.blk (by rw [List.length_map]; omega) (by rw [List.length_map]; exact hcap) (by rw [e1, S8_list]; omega)
  rw [e1, S8_list, List.length_map] at this
  refine this.mono fun e w' he => ⟨he.1, sh.keep (Keeps.of_below he.2)⟩
/-- What lies in the memory of a builder that holds some bytes. -/
def Bld (h : List (Nat × Seg)) (lo n i : Nat) (b : List UInt8) : Prop :=
  ∃ p V, hget h i = some ⟨2, cl [p, V], true, some (92, 2)⟩ ∧ (p = .raw (.pointer none) ∨ p = .ptr i 0) ∧ lo ≤ i ∧ i < n ∧
    ((V = .nils ∧ b = []) ∨ ∃ j cap sg, V = .sl j 0 b.length cap ∧ lo ≤ j ∧ j ≠ i ∧ j < n ∧ hget h j = some sg ∧ sg.own = some (5, cap) ∧ sg.rw = true ∧ b.length ≤ cap ∧ cap ≤ maxLen ∧ 0 < cap ∧ b.length ≤ sg.n ∧ ∀ k, k < b.length → sg.c k = bytesC b k)
theorem copyCheck_E (i : Nat) (p V : SV) (hs : hget h i = some ⟨2, cl [p, V], true, some (92, 2)⟩) (hp : p = .raw (.pointer none) ∨ p = .ptr i 0) (hi : i < n) (K : HK)
    (hK : K (.tup 0 (cl [])) (hset h i ⟨2, cl [.ptr i 0, V], true, some (92, 2)⟩) n) : CallE Tryz.prog cx 69 [.ptr i 0] h n K := by
  refine ⟨Tryz.call69, by simp only [go_sem, and_self], fun ρ w sh _ => ?_⟩
  have hseg := sh.seg i _ hs
  obtain ⟨hz, hbase, cur, hheap, hcur⟩ := hseg.own _ _ rfl
  have hc0 : w.cell? ⟨(ρ i).1, 0, none⟩ = some (den ρ p) := by
    have := hseg.cells 0 (by show 0 < 2; omega)
    rw [hz] at this
    exact this
  have hf0 : w.frozen? ⟨(ρ i).1, 0, none⟩ = false := by
    have := (hseg.rwf rfl 0 (by show 0 < 2; omega)).1
    rw [hz] at this
    exact this
  have hsh : w.shape? (ρ i).1 = some (92, 2) := by simp [World.shape?, hheap, hcur]
  have ea : [SV.ptr i 0].map (den ρ) = [.pointer (some ⟨(ρ i).1, 0, none⟩)] := by simp [den, hz]
  rw [ea]
  rcases hp with rfl | rfl
  · refine (Any.Builder_copyCheck_fresh Tryz.lay156_240 Tryz.Builder_Extra_156.toX72 (ρ i).1 w hc0 hsh hf0).mono fun e w' he => ?_
    obtain ⟨rfl, rfl⟩ := he
    obtain ⟨_, _, h3⟩ := sh.set1 hs rfl (o := 0) (by show 0 < 2; omega) (v := .ptr i 0) hi
    rw [hz] at h3
    have eu : upd (cl [SV.raw (.pointer none), V]) 0 (.ptr i 0) = cl [.ptr i 0, V] := by
      funext k
      match k with
      | 0 => rfl
      | 1 => rfl
      | k + 2 => rfl
    simp only [eu] at h3
    refine ⟨ρ, .tup 0 (cl []), _, n, fun _ _ => rfl, Nat.le_refl _, rfl, fun j hj => absurd hj (Nat.not_lt_zero j), ?_, hK⟩
    have ed : den ρ (.ptr i 0) = .pointer (some ⟨(ρ i).1, 0, none⟩) := by simp [den, hz]
    rw [ed] at h3
    exact h3
  · have ed : den ρ (.ptr i 0) = .pointer (some ⟨(ρ i).1, 0, none⟩) := by simp [den, hz]
    rw [ed] at hc0
    refine (Any.Builder_copyCheck_used Tryz.lay156_240 Tryz.Builder_Extra_156.toX72 (ρ i).1 w hc0).mono fun e w' he => ?_
    obtain ⟨rfl, rfl⟩ := he
    rw [hset_self hs] at hK
    exact ⟨ρ, .tup 0 (cl []), h, n, fun _ _ => rfl, Nat.le_refl _, rfl, fun j hj => absurd hj (Nat.not_lt_zero j), sh, hK⟩
theorem bldString_E (lo i : Nat) (b : List UInt8) (hB : Bld h lo n i b) (hb : b ≠ []) (K : HK) (hK : K (.str (S8 b)) [] n) : CallE Tryz.prog cx 57 [.ptr i 0] h n K := by
  obtain ⟨p, V, hs, hp, h1, h2, hV⟩ := hB
  rcases hV with ⟨_, e⟩ | ⟨j, cap, sg, rfl, j1, j2, j3, j4, j5, j6, j7, j8, j9, j10, j11⟩
  · exact absurd e hb
  refine ⟨Tryz.call57, by simp only [go_sem, and_self], fun ρ w sh _ => ?_⟩
  have hseg := sh.seg i _ hs
  obtain ⟨hz, hbase, cur, hheap, hcur⟩ := hseg.own _ _ rfl
  have hsegj := sh.seg j _ j4
  obtain ⟨hzj, hbasej, curj, hheapj, hcurj⟩ := hsegj.own _ _ j5
  have ea : [SV.ptr i 0].map (den ρ) = [.pointer (some ⟨(ρ i).1, 0, none⟩)] := by simp [den, hz]
  rw [ea]
  have hcells : cur = #[den ρ p, .slice (some ⟨(ρ j).1, 0, none⟩) b.length cap] := by
    have c0 := hseg.cells 0 (by show 0 < 2; omega)
    have c1 := hseg.cells 1 (by show 1 < 2; omega)
    simp only [World.cell?, hheap, hz, Nat.zero_add] at c0 c1
    have c0 : cur[0]? = some (den ρ p) := by simpa [cl] using c0
    have c1 : cur[1]? = some (den ρ (.sl j 0 b.length cap)) := by simpa [cl] using c1
    apply Array.ext_getElem?
    intro k
    match k with
    | 0 => rw [c0]; rfl
    | 1 => rw [c1]; simp [den, hzj]
    | k + 2 => rw [Array.getElem?_eq_none (by omega), Array.getElem?_eq_none (by simp)]
  have hdisj : (ρ i).1 ≠ (ρ j).1 := by
    rcases sh.dis i j _ _ (Ne.symm j2) hs j4 (.inl rfl) with e | ⟨e, _⟩
    · exact e
    · cases e
  have hIs : Lib.IsBuilder 92 5 cx.w0.heap.size (ρ i).1 (Lib.byteCells b) w := by
    have hat : Lib.BuilderAt 92 5 cx.w0.heap.size (ρ i).1 (den ρ p) (Lib.byteCells b) w := by
      refine ⟨hbase, .slice (some ⟨(ρ j).1, 0, none⟩) b.length cap, by rw [hheap, hcells], ⟨by rw [Lib.byteCells_length, Nat.mul_one], .inr ⟨(ρ j).1, cap, curj, by rw [Lib.byteCells_length], hbasej, hheapj, by rw [Lib.byteCells_length]; exact j7, j8, by rw [hcurj, Nat.mul_one], ?_⟩⟩, by simp [Value.ownBlock]; exact Ne.symm hdisj⟩
      rw [Lib.byteCells_length, Nat.mul_one]
      apply List.ext_getElem?
      intro k
      by_cases hk : k < b.length
      · rw [List.getElem?_take_of_lt hk, Array.getElem?_toList]
        have := hsegj.cells k (by omega)
        simp only [World.cell?, hheapj, hzj, Nat.zero_add] at this
        have h3 : curj[k]? = some (den ρ (bytesC b k)) := by rw [← j11 k hk]; simpa using this
        rw [h3]
        unfold Lib.byteCells bytesC
        rw [List.getElem?_map, List.getElem?_eq_getElem hk, List.getD_eq_getElem?_getD, List.getElem?_eq_getElem hk]
        rfl
      · rw [List.getElem?_eq_none (by simp; omega), List.getElem?_eq_none (by rw [Lib.byteCells_length]; omega)]
    rcases hp with rfl | rfl
    · exact .inl hat
    · have ed : den ρ (.ptr i 0) = .pointer (some ⟨(ρ i).1, 0, none⟩) := by simp [den, hz]
      rw [ed] at hat
      exact .inr hat
  refine (Tryz.Builder_String cx.w0.heap.size (ρ i).1 b w hIs hb).mono fun e w' he => ?_
  obtain ⟨rfl, hbel⟩ := he
  refine ⟨ρ, .str (S8 b), [], n, fun _ _ => rfl, Nat.le_refl _, rfl, trivial, ⟨⟨hbel.os.trans sh.keeps.os, hbel.tape.trans sh.keeps.tape, hbel.output.trans sh.keeps.output, Nat.le_trans sh.keeps.size hbel.size, fun x hx => ?_⟩, fun i t ht => (by cases ht), fun i j x y _ hx => (by cases hx), fun i t ht => (by cases ht)⟩, hK⟩
  exact (sh.keeps.blk x hx).trans (W' := cx.W x) (ObjK.of_eq (hbel.block x hx)) fun _ h => h
end
end Go.Proofs.YtkanbbfddlhlcaaGreatDoor.V

/- WriteString: the walk. -/
namespace Go.Proofs.YtkanbbfddlhlcaaGreatDoor.V
@[go_sem] theorem ofV_nilIface : ofV .nilIface = .raw .nilIface := rfl
theorem u8_U8 : U8 (ti 5) := ⟨rfl, rfl, rfl, rfl⟩
section
variable (cx : Cx) (h : List (Nat × Seg)) (n : Nat)
theorem writeStr_E (lo i : Nat) (b s : List UInt8) (hB : Bld h lo n i b) (h0 : 0 < s.length) (h9 : b.length + s.length ≤ 1000000000) (K : HK)
    (hK : ∀ h' n', n ≤ n' → HExt lo h h' → HOk n' h' → Bld h' lo n' i (b ++ s) → K (.tup 2 (cl [.int .i64 s.length, .raw .nilIface])) h' n') :
    CallE Tryz.prog cx 56 [.ptr i 0, .str (S8 s)] h n K := by
  obtain ⟨p, V, hs, hp, h1, h2, hV⟩ := hB
  refine CallE.hokE ?_
  refine callE_of_T (P := Tryz.prog) hti (nt := 19) (rs := [.tmp 4, .tmp 5]) rfl rfl Tryz.call56 Tryz.func56 rfl _ (by simp only [go_sem, and_self]) (Nat.le_of_ble_eq_true rfl) _ fun hok => ?_
  simp only [go_sem, Nat.reduceLT]
  refine callA_false (copyCheck_E _ _ _ i p V hs hp h2 _ ?_)
  have hs1 := hget_hset_self hs ⟨2, cl [.ptr i 0, V], true, some (92, 2)⟩
  have ok1 : HOk n (hset h i ⟨2, cl [.ptr i 0, V], true, some (92, 2)⟩) := HOk.hset hok fun k hk => by
    have hk : k < 2 := hk
    match k with
    | 0 => exact h2
    | 1 => exact (hok i _ hs).2 1 (by show 1 < 2; omega)
    | k + 2 => omega
  rcases hV with ⟨rfl, rfl⟩ | ⟨j, cap, sg, rfl, j1, j2, j3, j4, j5, j6, j7, j8, j9, j10, j11⟩
  · have hsz : (S8 s).size = s.length := S8_size s
    simp only [go_sem, Nat.reduceLT, reduceCtorEq, hs1, h2]
    refine ⟨rfl, strNil_sem hti (e := 5) (s := S8 s) rfl (by simp [dok]) rfl rfl u8_U8 rfl rfl (by omega) (by omega) fun cap c1 c2 => ?_⟩
    rw [hsz] at c1
    rw [S8_list, hsz]
    have hmi : (n == i) = false := by simp; omega
    have hsi : hget ((n, ⟨s.length, bytesC s, true, some (5, cap)⟩) :: hset h i ⟨2, cl [.ptr i 0, .nils], true, some (92, 2)⟩) i = some ⟨2, cl [.ptr i 0, .nils], true, some (92, 2)⟩ := by simp only [hget]; rw [if_neg (by omega)]; exact hs1
    have hli : i < n + 1 := by omega
    simp only [go_sem, Nat.reduceLT, Nat.reduceEqDiff, reduceIte, reduceCtorEq, hsi, hli]
    refine fun ok' => hK _ (n + 1) (by omega) (fun z hz t ht => ?_) ok' ?_
    · rw [hget_hset, if_neg (by omega)]
      simp only [hget]
      rw [if_neg (by omega), hget_hset, if_neg (by omega)]
      exact ht
    · rw [List.nil_append]
      refine ⟨.ptr i 0, .sl n 0 s.length cap, hget_hset_self hsi _, .inr rfl, h1, by omega, .inr ⟨n, cap, ⟨s.length, bytesC s, true, some (5, cap)⟩, rfl, by omega, by omega, by omega, ?_, rfl, rfl, c1, c2, by omega, Nat.le_refl _, fun _ _ => rfl⟩⟩
      rw [hget_hset, if_neg (by omega)]
      exact hget_hit _ _ _
  · have hsz : (S8 s).size = s.length := S8_size s
    have hj1 : hget (hset h i ⟨2, cl [.ptr i 0, .sl j 0 b.length cap], true, some (92, 2)⟩) j = some sg := by rw [hget_hset, if_neg (Ne.symm j2)]; exact j4
    simp only [go_sem, Nat.reduceLT, reduceCtorEq, hs1, h2]
    refine ⟨rfl, strOwn_sem hti (e := 5) (s := S8 s) (b := b) (sg := sg) rfl (by simp [dok]) rfl rfl u8_U8 rfl rfl (by omega) hj1 j5 j7 j8 j9 j10 rfl j11 fun cap' c1 c2 => ?_⟩
    rw [hsz] at c1
    rw [S8_list, hsz]
    have hsi : hget ((n, ⟨b.length + s.length, bytesC (b ++ s), true, some (5, cap')⟩) :: hdel (hset h i ⟨2, cl [.ptr i 0, .sl j 0 b.length cap], true, some (92, 2)⟩) j) i = some ⟨2, cl [.ptr i 0, .sl j 0 b.length cap], true, some (92, 2)⟩ := by simp only [hget]; rw [if_neg (by omega), hget_hdel, if_neg j2]; exact hs1
    have hli : i < n + 1 := by omega
    simp only [go_sem, Nat.reduceLT, Nat.reduceEqDiff, reduceIte, reduceCtorEq, hsi, hli]
    refine fun ok' => hK _ (n + 1) (by omega) (fun z hz t ht => ?_) ok' ?_
    · rw [hget_hset, if_neg (by omega)]
      simp only [hget]
      rw [if_neg (by omega), hget_hdel, if_neg (by omega), hget_hset, if_neg (by omega)]
      exact ht
    · refine ⟨.ptr i 0, .sl n 0 (b.length + s.length) cap', hget_hset_self hsi _, .inr rfl, h1, by omega, .inr ⟨n, cap', ⟨b.length + s.length, bytesC (b ++ s), true, some (5, cap')⟩, by rw [List.length_append], by omega, by omega, by omega, ?_, rfl, rfl, by rw [List.length_append]; exact c1, c2, by omega, by rw [List.length_append]; exact Nat.le_refl _, fun _ _ => rfl⟩⟩
      rw [hget_hset, if_neg (by omega)]
      exact hget_hit _ _ _
end
end Go.Proofs.YtkanbbfddlhlcaaGreatDoor.V

/- The lines of a sheet's text: the walk. -/
namespace Go.Proofs.YtkanbbfddlhlcaaGreatDoor.V
def rowL (W : Nat) (sep : List UInt8) (wd : Nat → Nat → List UInt8) (y : Nat) : List UInt8 := Lib.join ((List.range W).map fun x => wd x y) sep
/-- A text with a line for each row. -/
def linesK (W : Nat) (sep : List UInt8) (wd : Nat → Nat → List UInt8) : Nat → List UInt8
  | 0 => []
  | k + 1 => linesK W sep wd k ++ (rowL W sep wd k ++ [10])
theorem joinTail_le (sep : List UInt8) (m : Nat) : ∀ (L : List (List UInt8)), (∀ a ∈ L, a.length ≤ m) → (Lib.joinTail sep L).length ≤ L.length * (m + sep.length)
  | [], _ => by simp [Lib.joinTail]
  | a :: L, h => by
    have ih := joinTail_le sep m L fun b hb => h b (List.mem_cons_of_mem _ hb)
    have h1 := h a (List.mem_cons_self ..)
    have e : Lib.joinTail sep (a :: L) = (sep ++ a) ++ Lib.joinTail sep L := by simp [Lib.joinTail]
    rw [e, List.length_append, List.length_append, List.length_cons, Nat.add_mul]
    omega
theorem join_le (sep : List UInt8) (m : Nat) (L : List (List UInt8)) (h : ∀ a ∈ L, a.length ≤ m) : (Lib.join L sep).length ≤ L.length * (m + sep.length) := by
  cases L with
  | nil => simp [Lib.join_nil]
  | cons a L =>
    have ih := joinTail_le sep m L fun b hb => h b (List.mem_cons_of_mem _ hb)
    have h1 := h a (List.mem_cons_self ..)
    rw [Lib.join_cons, List.length_append, List.length_cons, Nat.add_mul]
    omega
theorem rowL_le {W : Nat} {sep : List UInt8} {wd : Nat → Nat → List UInt8} (hs : sep.length ≤ 10) (hw : ∀ x y, (wd x y).length ≤ 1000) (hW : W ≤ 8) (y : Nat) : (rowL W sep wd y).length ≤ 8080 := by
  unfold rowL
  have := join_le sep 1000 ((List.range W).map fun x => wd x y) (fun a ha => by
    obtain ⟨x, _, rfl⟩ := List.mem_map.1 ha
    exact hw x y)
  rw [List.length_map, List.length_range] at this
  have h2 : W * (1000 + sep.length) ≤ 8 * 1010 := Nat.mul_le_mul hW (by omega)
  omega
theorem linesK_le {W : Nat} {sep : List UInt8} {wd : Nat → Nat → List UInt8} (hs : sep.length ≤ 10) (hw : ∀ x y, (wd x y).length ≤ 1000) (hW : W ≤ 8) : ∀ k, (linesK W sep wd k).length ≤ 9000 * k
  | 0 => by simp [linesK]
  | k + 1 => by
    have ih := linesK_le hs hw hW k
    have := rowL_le hs hw hW k
    rw [linesK, List.length_append, List.length_append, List.length_singleton]
    omega
/-- A list of strings to which one may append. -/
def StrO (h : List (Nat × Seg)) (lo n : Nat) (V : SV) (L : List (List UInt8)) : Prop :=
  ∃ j cap s, V = .sl j 0 L.length cap ∧ lo ≤ j ∧ j < n ∧ hget h j = some s ∧ s.own = some (9, cap) ∧ s.rw = true ∧ s.n = L.length ∧ L.length ≤ cap ∧ cap ≤ maxLen ∧ ∀ k, k < L.length → s.c k = strsC L k
theorem strApp1 {h hq : List (Nat × Seg)} {n nq jv cap : Nat} {A : List (List UInt8)} {a : List UInt8} {sc c1 : Nat → SV} {w : Option (Nat × Nat)} (I1 : n ≤ nq) (I2 : HOk nq hq) (I3 : HExt n h hq) (v1 : n ≤ jv) (c10 : c1 0 = .str (S8 a))
    (v9 : ∀ k, k < A.length → sc k = strsC A k) (m1 : A.length + 1 ≤ cap) (m2 : cap ≤ maxLen) :
    HOk (nq + 2) ((nq + 1, ⟨A.length + 1, both A.length sc (news c1 0), true, some (9, cap)⟩) :: (nq, ⟨1, c1, true, w⟩) :: hdel hq jv) ∧
    HExt n h ((nq + 1, ⟨A.length + 1, both A.length sc (news c1 0), true, some (9, cap)⟩) :: (nq, ⟨1, c1, true, w⟩) :: hdel hq jv) ∧
    StrO ((nq + 1, ⟨A.length + 1, both A.length sc (news c1 0), true, some (9, cap)⟩) :: (nq, ⟨1, c1, true, w⟩) :: hdel hq jv) n (nq + 2) (.sl (nq + 1) 0 (A.length + 1) cap) (A ++ [a]) := by
  have hbo : ∀ k, k < A.length + 1 → both A.length sc (news c1 0) k = strsC (A ++ [a]) k := fun k hk => by
    unfold both news
    split
    · rename_i hk2
      rw [v9 k hk2]
      unfold strsC
      rw [List.getD_eq_getElem?_getD, List.getD_eq_getElem?_getD, List.getElem?_append_left hk2]
    · rename_i hk2
      have e : k = A.length := by omega
      subst e
      rw [Nat.sub_self, Nat.zero_add, c10]
      unfold strsC
      simp
  have okd : HOk nq (hdel hq jv) := fun i t hi => by
    rw [hget_hdel] at hi
    split at hi
    · cases hi
    · exact I2 i t hi
  refine ⟨fun i t hi => ?_, fun z hz t ht => ?_, nq + 1, cap, _, by rw [List.length_append]; rfl, by omega, by omega, hget_hit _ _ _, rfl, rfl, by rw [List.length_append]; rfl, by rw [List.length_append]; exact m1, m2, fun k hk => hbo k (by rw [List.length_append] at hk; exact hk)⟩
  · simp only [hget] at hi
    split at hi
    · rename_i e; cases hi
      refine ⟨by omega, fun k hk => ?_⟩
      show (both A.length sc (news c1 0) k).lt _
      rw [hbo k hk]; trivial
    · split at hi
      · rename_i e; cases hi
        refine ⟨by omega, fun k hk => ?_⟩
        have hk : k < 1 := hk
        have e : k = 0 := by omega
        subst e
        show (c1 0).lt _
        rw [c10]; trivial
      · exact ⟨by have := (okd i t hi).1; omega, fun k hk => SV.lt_mono (by omega) _ ((okd i t hi).2 k hk)⟩
  · simp only [hget]
    rw [if_neg (by omega), if_neg (by omega), hget_hdel, if_neg (by omega)]
    exact I3 z hz t ht
theorem Bld.ext {h h' : List (Nat × Seg)} {lo n n' i : Nat} {b : List UInt8} (hB : Bld h lo n i b) (hn : n ≤ n') (hx : HExt n h h') : Bld h' lo n' i b := by
  obtain ⟨p, V, hs, hp, h1, h2, hV⟩ := hB
  refine ⟨p, V, hx i h2 _ hs, hp, h1, by omega, ?_⟩
  rcases hV with e | ⟨j, cap, sg, e, j1, j2, j3, j4, j5⟩
  · exact .inl e
  · exact .inr ⟨j, cap, sg, e, j1, j2, by omega, hx j j3 _ j4, j5⟩
section
variable (cx : Cx) (h : List (Nat × Seg)) (n : Nat)
set_option maxHeartbeats 1600000 in
theorem lines_E (w0 : World) (j o : Nat) (sg : Seg) (W H : Nat) (sep : List UInt8) (f a b : Nat) (G F : Nat → SV) (wd : Nat → Nat → List UInt8)
    (hs : hget h j = some sg) (hj : j < n) (ho : o + 2 ≤ sg.n) (hw : sg.c o = .int .i8 W) (hh : sg.c (o + 1) = .int .i8 H) (w1 : 1 ≤ W) (hW8 : W ≤ 8) (h1 : 1 ≤ H) (h8 : H ≤ 8) (hsep : sep.length ≤ 10) (hwd : ∀ x y, (wd x y).length ≤ 1000) (hF : (SV.fn f a G b F).lt n)
    (hof : ∀ (x y : Nat), x < W → y < H → ∀ (nt n0 : Nat) (h' : List (Nat × Seg)) (n' : Nat), n ≤ n' → HExt n (ro h) h' → CallQ Tryz.prog ⟨w0, Noth, nt, n0⟩ f (lst a G ++ [spot x y] ++ lst b F) h' n' (.str (S8 (wd x y)))) :
    CallE Tryz.prog ⟨w0, Noth, 0, n⟩ 51 [.ptr j o, .str (S8 sep), .fn f a G b F] (ro h) n fun v _ _ => v = .str (S8 (linesK W sep wd H)) := by
  have hFm : ∀ m, n ≤ m → (∀ j, j < a → (G j).lt m) ∧ ∀ j, j < b → (F j).lt m := fun m hm => ⟨fun j hj => SV.lt_mono hm _ (hF.1 j hj), fun j hj => SV.lt_mono hm _ (hF.2 j hj)⟩
  have hsr : hget (ro h) j = some ⟨sg.n, sg.c, false, none⟩ := ro_some hs
  generalize ro h = hr at *
  refine callE_of_T (P := Tryz.prog) hti (nt := 43) (rs := [.tmp 6]) rfl rfl Tryz.call51 Tryz.func51 rfl _ (by simp only [go_sem, and_self]) (Nat.le_of_ble_eq_true rfl) _ fun hok => ?_
  have b1 : o + 1 ≤ sg.n := by omega
  have b2 : o + 1 + 1 ≤ sg.n := by omega
  have b3 : o ≤ sg.n - 1 := by omega
  have b4 : o + 1 ≤ sg.n - 1 := by omega
  have b5 : 1 ≤ sg.n := by omega
  have b6 : o < sg.n := by omega
  have b7 : o + 1 < sg.n := by omega
  simp only [go_sem, Nat.reduceLT, reduceIte, reduceCtorEq, hsr, hj, hh, b1, b2, b3, b4, b5, b6, b7]
  refine ⟨rfl, ?_⟩
  have ok0 : HOk (n + 1) ((n, ⟨2, cl [.raw (.pointer none), .nils], true, some (92, 2)⟩) :: hr) := fun i t hi => by
    simp only [hget] at hi
    split at hi
    · rename_i e; cases hi
      refine ⟨by omega, fun k hk => ?_⟩
      have hk : k < 2 := hk
      match k with
      | 0 => trivial
      | 1 => trivial
      | k + 2 => omega
    · exact ⟨by have := (hok i t hi).1; omega, fun k hk => SV.lt_mono (by omega) _ ((hok i t hi).2 k hk)⟩
  have B0 : Bld ((n, ⟨2, cl [.raw (.pointer none), .nils], true, some (92, 2)⟩) :: hr) n (n + 1) n [] := ⟨_, _, hget_hit _ _ _, .inl rfl, Nat.le_refl _, by omega, .inl ⟨rfl, rfl⟩⟩
  have X0 : HExt n hr ((n, ⟨2, cl [.raw (.pointer none), .nils], true, some (92, 2)⟩) :: hr) := fun z hz t ht => by simp only [hget]; rw [if_neg (by omega)]; exact ht
  generalize ((n, (⟨2, cl [.raw (.pointer none), .nils], true, some (92, 2)⟩ : Seg)) :: hr) = h0 at *
  refine T_lp (ι := { q : Nat × List (Nat × Seg) × Nat // q.1 ≤ H ∧ n + 1 ≤ q.2.2 ∧ HOk q.2.2 q.2.1 ∧ HExt n hr q.2.1 ∧ Bld q.2.1 n q.2.2 n (linesK W sep wd q.1) })
    (fun q => ([(0, .ptr j o), (1, .str (S8 sep)), (2, .fn f a G b F), (7, .ptr n 0), (15, .int .i8 H), (16, .int .i8 q.1.1)], q.1.2.1, q.1.2.2)) (fun q => H - q.1.1) ⟨(0, h0, n + 1), Nat.zero_le _, Nat.le_refl _, ok0, X0, B0⟩ ?_ ?_
  · refine Imp.id (by show n ≤ n + 1; omega) ?_ (impH.base0 ok0 (Nat.le_refl _) HExt.rfl)
    simp only [go_sem, Nat.reduceLT]
    exact ⟨by omega, hFm _ (by omega), by omega⟩
  rintro ⟨⟨y, hq, nq⟩, hyH, hnq, okq, xq, Bq⟩
  simp only at hyH hnq okq xq Bq
  have sq := xq j hj _ hsr
  have jq : j < nq := by omega
  have hll := linesK_le (wd := wd) hsep hwd hW8 y
  simp only [go_sem, Nat.reduceLT, reduceCtorEq, decide_eq_true_eq, decide_eq_false_iff_not]
  refine ⟨fun hy1 => ?_, fun hy1 => ?_⟩
  rotate_left
  · have e : y = H := by omega
    subst e
    refine callA_false (bldString_E _ _ _ n n _ Bq (by
      obtain ⟨k, rfl⟩ : ∃ k, y = k + 1 := ⟨y - 1, by omega⟩
      rw [linesK]
      simp) _ ?_)
    simp only [go_sem, Nat.reduceLT]
    done
  simp only [go_sem, Nat.reduceLT, sq, jq, hw, b1, b2, b3, b4, b5, b6, b7]
  generalize zrow _ = Z
  have ok1 : HOk (nq + 1) ((nq, ⟨0, Z, true, some (9, 0)⟩) :: hq) := fun i t hi => by
    simp only [hget] at hi
    split at hi
    · rename_i e; cases hi
      exact ⟨by omega, fun k hk => absurd hk (Nat.not_lt_zero k)⟩
    · exact ⟨by have := (okq i t hi).1; omega, fun k hk => SV.lt_mono (by omega) _ ((okq i t hi).2 k hk)⟩
  have X1 : HExt nq hq ((nq, ⟨0, Z, true, some (9, 0)⟩) :: hq) := fun z hz t ht => by simp only [hget]; rw [if_neg (by omega)]; exact ht
  have S1 : StrO ((nq, ⟨0, Z, true, some (9, 0)⟩) :: hq) nq (nq + 1) (.sl nq 0 0 0) [] := ⟨nq, 0, _, rfl, Nat.le_refl _, by omega, hget_hit _ _ _, rfl, rfl, rfl, Nat.le_refl _, Nat.zero_le _, fun k hk => absurd hk (Nat.not_lt_zero k)⟩
  generalize ((nq, (⟨0, Z, true, some (9, 0)⟩ : Seg)) :: hq) = h1 at *
  refine T_lp (ι := { q : Nat × List (Nat × Seg) × Nat × SV // q.1 ≤ W ∧ nq + 1 ≤ q.2.2.1 ∧ HOk q.2.2.1 q.2.1 ∧ HExt nq hq q.2.1 ∧ StrO q.2.1 nq q.2.2.1 q.2.2.2 ((List.range q.1).map fun x => wd x y) })
    (fun q => ([(0, .ptr j o), (1, .str (S8 sep)), (2, .fn f a G b F), (7, .ptr n 0), (15, .int .i8 H), (16, .int .i8 y), (8, .int .i8 y), (9, q.1.2.2.2), (23, .int .i8 W), (24, .int .i8 q.1.1)], q.1.2.1, q.1.2.2.1)) (fun q => W - q.1.1) ⟨(0, h1, nq + 1, .sl nq 0 0 0), Nat.zero_le _, Nat.le_refl _, ok1, X1, S1⟩ ?_ ?_
  · refine Imp.id (by show n ≤ nq + 1; omega) ?_ (impH.base0 ok1 (Nat.le_refl _) HExt.rfl)
    simp only [go_sem, Nat.reduceLT]
    exact ⟨by omega, hFm _ (by omega), by omega, by omega⟩
  rintro ⟨⟨x, hx, nx, V⟩, hxW, hnx, okx, xx, Sx⟩
  simp only at hxW hnx okx xx Sx
  have Xx : HExt n hr hx := xq.tr xx (by omega)
  obtain ⟨jv, capV, ⟨sn, sc, sr, so⟩, rfl, v1, v2, v3, v4, v5, v6, v7, v8, v9⟩ := Sx
  simp only at v4 v5 v6 v9
  subst v4 v5 v6
  have hlx : ((List.range x).map fun x => wd x y).length = x := by simp
  simp only [go_sem, Nat.reduceLT, Nat.reduceLeDiff, decide_eq_true_eq, decide_eq_false_iff_not]
  refine ⟨fun hx1 => ?_, fun hx1 => ?_⟩
  · have nv3 : nx ≠ jv := by omega
    refine (hof x y (by omega) (by omega) _ _ hx nx (by omega) Xx).A ?_
    generalize hL : (List.range x).map (fun x => wd x y) = L at *
    have hL1 : (List.range (x + 1)).map (fun x => wd x y) = L ++ [wd x y] := by rw [List.range_succ, List.map_append, hL]; rfl
    simp only [go_sem, Nat.reduceLT, Nat.reduceLeDiff, v3, v2, nv3]
    refine ⟨⟨v7, v8, by omega⟩, fun cap' m1 m2 => ?_⟩
    generalize hC : upd (zrow _) 0 (SV.str (S8 (wd x y))) = C
    have hC0 : C 0 = .str (S8 (wd x y)) := by rw [← hC]; rfl
    obtain ⟨okN, exN, spN⟩ := strApp1 (n := nq) (h := hq) (nq := nx) (jv := jv) (A := L) (a := wd x y) (sc := sc) (c1 := C) (w := some (9, 1)) (by omega) okx xx v1 hC0 v9 m1 m2
    refine ⟨⟨(x + 1, _, nx + 2, .sl (nx + 1) 0 (L.length + 1) cap'), by show x + 1 ≤ W; omega, by show nq + 1 ≤ nx + 2; omega, okN, exN, by show StrO _ _ _ _ ((List.range (x + 1)).map fun x => wd x y); rw [hL1]; exact spN⟩, by show W - (x + 1) < W - x; omega, ?_⟩
    refine Imp.id (by show n ≤ nx + 2; omega) ?_ (impH.base0 okN (Nat.le_refl _) HExt.rfl)
    simp only [go_sem, Nat.reduceLT, w8 (n := (x : Int) + 1) (by omega), Int.natCast_add, Int.natCast_one]
    exact ⟨by omega, hFm _ (by omega), by omega, by omega⟩
  · have e : x = W := by omega
    subst e
    have hj2 := join_le sep 1000 ((List.range x).map fun x => wd x y) (fun a ha => by
      obtain ⟨x, _, rfl⟩ := List.mem_map.1 ha
      exact hwd x y)
    have hrl := rowL_le (wd := wd) hsep hwd hW8 y
    refine (join_Q _ _ _ jv capV ((List.range x).map fun x => wd x y) sep _ v3 v2 (Nat.le_refl _) v9 v7 (by omega) (by unfold rowL at hrl; omega)).A ?_
    have e10 : (⟨#[10]⟩ : ByteArray) = S8 [10] := rfl
    simp only [go_sem, Nat.reduceLT, Nat.reduceLeDiff, e10]
    have hrl2 : (Lib.join ((List.range x).map fun x => wd x y) sep).length ≤ 8080 := hrl
    refine ⟨by omega, callA_false (writeStr_E _ hx nx n n (linesK x sep wd y) (Lib.join ((List.range x).map fun x => wd x y) sep ++ [10]) (Bq.ext (by omega) xx) (by rw [List.length_append, List.length_singleton]; omega) (by rw [List.length_append, List.length_singleton]; omega) _ ?_)⟩
    intro h3 n3 hn3 x3 ok3 B3
    simp only [go_sem, Nat.reduceLT]
    refine ⟨⟨(y + 1, h3, n3), by show y + 1 ≤ H; omega, by show n + 1 ≤ n3; omega, ok3, Xx.tr x3 (Nat.le_refl _), B3⟩, by show H - (y + 1) < H - y; omega, ?_⟩
    refine Imp.id (by show n ≤ n3; omega) ?_ (impH.base0 ok3 (Nat.le_refl _) HExt.rfl)
    simp only [go_sem, Nat.reduceLT, w8 (n := (y : Int) + 1) (by omega), Int.natCast_add, Int.natCast_one]
    exact ⟨by omega, hFm _ (by omega), by omega⟩
end
end Go.Proofs.YtkanbbfddlhlcaaGreatDoor.V

/- Plain laws: a text, split at a byte. -/
namespace Go.Proofs.YtkanbbfddlhlcaaGreatDoor.V
/-- The pieces of a text between the bytes c. -/
def spl (c : UInt8) : List UInt8 → List (List UInt8)
  | [] => [[]]
  | b :: l => if b = c then [] :: spl c l else (b :: (spl c l).headD []) :: (spl c l).tail
theorem spl_ne (c : UInt8) : ∀ l, spl c l ≠ []
  | [] => by simp [spl]
  | b :: l => by rw [spl]; split <;> simp
theorem spl_none {c : UInt8} : ∀ {l : List UInt8}, c ∉ l → spl c l = [l]
  | [], _ => rfl
  | b :: l, h => by
    rw [List.mem_cons, not_or] at h
    rw [spl, if_neg (Ne.symm h.1), spl_none h.2]; rfl
theorem spl_app {c : UInt8} : ∀ {a : List UInt8} (l : List UInt8), c ∉ a → spl c (a ++ c :: l) = a :: spl c l
  | [], l, _ => by rw [List.nil_append, spl, if_pos rfl]
  | b :: a, l, h => by
    rw [List.mem_cons, not_or] at h
    rw [List.cons_append, spl, if_neg (Ne.symm h.1), spl_app l h.2]; rfl
theorem spl_join (c : UInt8) : ∀ l, Lib.join (spl c l) [c] = l
  | [] => by simp [spl, Lib.join_cons, Lib.joinTail]
  | b :: l => by
    have ih := spl_join c l
    obtain ⟨x, r, e⟩ : ∃ x r, spl c l = x :: r := by
      cases h : spl c l with
      | nil => exact absurd h (spl_ne c l)
      | cons x r => exact ⟨x, r, rfl⟩
    rw [spl, e]
    rw [e, Lib.join_cons] at ih
    split
    · rename_i h
      rw [Lib.join_cons]
      have : Lib.joinTail [c] (x :: r) = [c] ++ x ++ Lib.joinTail [c] r := by simp [Lib.joinTail]
      rw [this, h, ← ih]; simp
    · rw [List.headD_cons, List.tail_cons, Lib.join_cons, ← ih]; simp
theorem spl_of_join {c : UInt8} : ∀ {L : List (List UInt8)}, L ≠ [] → (∀ x ∈ L, c ∉ x) → spl c (Lib.join L [c]) = L
  | [], h, _ => absurd rfl h
  | [a], _, h => by rw [Lib.join_cons]; simp [Lib.joinTail]; exact spl_none (h a (by simp))
  | a :: b :: L, _, h => by
    have ih := spl_of_join (L := b :: L) (by simp) (fun x hx => h x (List.mem_cons_of_mem _ hx))
    have e : Lib.join (a :: b :: L) [c] = a ++ c :: Lib.join (b :: L) [c] := by rw [Lib.join_cons, Lib.join_cons]; simp [Lib.joinTail]
    rw [e, spl_app _ (h a (by simp)), ih]
theorem spl_len (c : UInt8) : ∀ l, (spl c l).length = l.count c + 1
  | [] => rfl
  | b :: l => by
    have ih := spl_len c l
    rw [spl]
    split
    · rename_i h; subst h; rw [List.length_cons, ih, List.count_cons_self]
    · rename_i h
      rw [List.count_cons_of_ne (by simpa using h), List.length_cons, List.length_tail, ih]; rfl
theorem spl_lenle {c : UInt8} : ∀ {l : List UInt8} {x : List UInt8}, x ∈ spl c l → x.length ≤ l.length
  | [], x, h => by simp [spl] at h; subst h; simp
  | b :: l, x, h => by
    rw [spl] at h
    rw [List.length_cons]
    split at h
    · rcases List.mem_cons.1 h with rfl | h
      · simp
      · have := spl_lenle h; omega
    · rcases List.mem_cons.1 h with rfl | h
      · rw [List.length_cons]
        cases e : spl c l with
        | nil => exact absurd e (spl_ne c l)
        | cons y r =>
          have := spl_lenle (c := c) (l := l) (x := y) (by rw [e]; simp)
          simpa using this
      · have := spl_lenle (l := l) (List.mem_of_mem_tail h); omega
/-- The library's split, at one byte. -/
theorem splitB_spl (c : UInt8) : ∀ (k : Nat) (s : ByteArray), Lib.countB s ⟨#[c]⟩ = k → (Lib.splitB ⟨#[c]⟩ 0 k s).map (fun x : ByteArray => x.data.toList) = spl c s.data.toList
  | k, s, hk => by
    have hc : Lib.count s.data.toList [c] = k := hk
    rw [Lib.count_one] at hc
    rcases Lib.indexB_cases s ⟨#[c]⟩ with hix | ⟨i, hix, hroom⟩
    · rw [Lib.splitB_miss _ _ _ _ hix]
      have : c ∉ s.data.toList := by
        rw [Lib.countB_miss s _ hix] at hk
        rw [← hk] at hc
        exact List.count_eq_zero.1 hc
      rw [spl_none this]; rfl
    · have hh := Lib.countB_hit s ⟨#[c]⟩ i (Nat.le_refl 1) hix
      obtain ⟨k, rfl⟩ : ∃ k', k = k' + 1 := ⟨k - 1, by omega⟩
      have s1 : (⟨#[c]⟩ : ByteArray).size = 1 := rfl
      rw [s1] at hh hroom
      have ih := splitB_spl c k (s.extract (i + 1) s.size) (by omega)
      rw [Lib.splitB_hit _ _ _ _ i hix, List.map_cons, s1, ih]
      have hi : Lib.index s.data.toList [c] = i := hix
      rw [Lib.index_one] at hi
      have key : ∀ (l : List UInt8) (i : Nat), Lib.indexByte l c = i → spl c l = l.take i :: spl c (l.drop (i + 1)) := fun l => by
        induction l with
        | nil => intro i h; simp [Lib.indexByte] at h
        | cons b l ih =>
          intro i h
          rw [Lib.indexByte] at h
          by_cases hb : b = c
          · subst hb
            rw [if_pos (by simp)] at h
            have : i = 0 := by omega
            subst this
            rw [spl, if_pos rfl]; simp
          · rw [if_neg (by simpa using hb)] at h
            by_cases hm : Lib.indexByte l c = -1
            · rw [hm, if_pos (by simp)] at h; omega
            · rw [if_neg (by simpa using hm)] at h
              obtain ⟨j, hj⟩ : ∃ j : Nat, Lib.indexByte l c = j := ⟨(Lib.indexByte l c).toNat, by have := Lib.indexByte_ge l c; omega⟩
              have e : i = j + 1 := by omega
              subst e
              rw [spl, if_neg hb, ih j hj]; simp
      rw [key _ i hi, Lib.extract_to_end]
      congr 1
      rw [Nat.add_zero, ByteArray.data_extract, Array.toList_extract, List.extract_eq_drop_take]
      simp
/-- The pieces that end before i, and where the piece at hand begins. -/
def spR (c : UInt8) (s : List UInt8) : Nat → List (List UInt8) × Nat
  | 0 => ([], 0)
  | i + 1 => if s.getD i 0 = c then ((spR c s i).1 ++ [(s.drop (spR c s i).2).take (i - (spR c s i).2)], i + 1) else spR c s i
theorem spR_le (c : UInt8) (s : List UInt8) : ∀ i, (spR c s i).2 ≤ i ∧ (spR c s i).1.length ≤ i
  | 0 => ⟨Nat.le_refl _, Nat.le_refl _⟩
  | i + 1 => by
    have := spR_le c s i
    rw [spR]
    split
    · simp; omega
    · omega
theorem spR_inv (c : UInt8) (s : List UInt8) : ∀ i, i ≤ s.length → spl c s = (spR c s i).1 ++ spl c (s.drop (spR c s i).2) ∧ c ∉ (s.drop (spR c s i).2).take (i - (spR c s i).2)
  | 0, _ => by simp [spR]
  | i + 1, h => by
    obtain ⟨h1, h2⟩ := spR_inv c s i (by omega)
    have hle := (spR_le c s i).1
    generalize hb : (spR c s i).2 = b at *
    generalize hd : (spR c s i).1 = D at *
    have hi : i < s.length := by omega
    have hsplit : s.drop b = (s.drop b).take (i - b) ++ s[i] :: s.drop (i + 1) := by
      have e := (List.take_append_drop (i - b) (s.drop b)).symm
      rw [List.drop_drop, show b + (i - b) = i by omega, List.drop_eq_getElem_cons hi] at e
      exact e
    have hg : s.getD i 0 = s[i] := by rw [List.getD_eq_getElem?_getD, List.getElem?_eq_getElem hi]; rfl
    rw [spR, hb, hd, hg]
    split
    · rename_i hc
      refine ⟨?_, by simp⟩
      rw [h1]
      conv => lhs; rw [hsplit, hc]
      rw [spl_app _ h2]
      simp
    · rename_i hc
      rw [hb, hd]
      refine ⟨h1, ?_⟩
      rw [show i + 1 - b = (i - b) + 1 by omega, List.take_succ, List.getElem?_drop, show b + (i - b) = i by omega, List.getElem?_eq_getElem hi]
      simp only [Option.toList_some, List.mem_append, List.mem_singleton, not_or]
      exact ⟨h2, Ne.symm hc⟩
theorem spR_end (c : UInt8) (s : List UInt8) : spl c s = (spR c s s.length).1 ++ [s.drop (spR c s s.length).2] := by
  obtain ⟨h1, h2⟩ := spR_inv c s s.length (Nat.le_refl _)
  rw [List.take_of_length_le (by rw [List.length_drop]; exact Nat.le_refl _)] at h2
  rw [spl_none h2] at h1
  exact h1
end Go.Proofs.YtkanbbfddlhlcaaGreatDoor.V

/- Numbers' texts: the library's FormatInt at base 10 (out of the kit's shelf), and the reference's Decimal. -/
namespace Go.Proofs.YtkanbbfddlhlcaaGreatDoor.V
open Go.RowKit
section
variable {P : Program} {ti : Nat → TI} {cx : Cx} {l : List (Nat × SV)} {h : List (Nat × Seg)} {n : Nat} {K : List (Nat × SV) → List (Nat × Seg) → Nat → Prop}
end
/-- The table of the powers of ten holds what it should, as long as the frame lasts. -/
def TabOk (cx : Cx) : Prop := ∀ w, Keeps cx.W cx.w0 w → Lib.TabIs Tryz.prog w "internal/strconv.uint64pow10" .u64 Lib.pow10Tab
theorem TabOk.to {cx : Cx} (hT : TabOk cx) {ρ : Rho} {h : List (Nat × Seg)} {n : Nat} {w : World} (sh : SatH cx ρ h n w) (nt n0 : Nat) : TabOk ⟨w, Noth, nt, n0⟩ := fun w' k => hT w' (sh.keeps.then k)
theorem TabOk.sub {cx : Cx} (hT : TabOk cx) (nt n0 : Nat) : TabOk ⟨cx.w0, cx.W, nt, n0⟩ := hT
theorem callQ_freshT {cx : Cx} {f : Nat} {args : List SV} {h : List (Nat × Seg)} {n : Nat} {r : SV} (hT : TabOk cx) (hrl : r.lt n) (hr : Runs Tryz.prog f) (hok : oks args)
    (hc : ∀ w0, TabOk ⟨w0, Noth, 0, n⟩ → CallE Tryz.prog ⟨w0, Noth, 0, n⟩ f args (ro h) n fun v _ _ => v = r) : CallQ Tryz.prog cx f args h n r := by
  refine ⟨hr, hok, hrl, fun ρ w sh hargs => ?_⟩
  have sub : ∀ i t, hget (ro h) i = some t → ∃ s, hget h i = some s ∧ t = roS s := fun i t ht => by
    rw [hget_ro] at ht
    cases hs : hget h i with
    | none => rw [hs] at ht; cases ht
    | some s => rw [hs] at ht; cases ht; exact ⟨s, rfl, rfl⟩
  have sh' : SatH ⟨w, Noth, 0, n⟩ ρ (ro h) n w := by
    refine ⟨Keeps.refl _ _, fun i t ht => ?_, fun i j x y hij hx hy hw => ?_, fun i t ht => ?_⟩
    · obtain ⟨s, hs, rfl⟩ := sub i t ht
      have := sh.seg i s hs
      exact ⟨this.blk, this.cells, (fun e => by cases e), (fun _ _ e => by cases e)⟩
    · obtain ⟨s, hs, rfl⟩ := sub i x hx
      rcases hw with e | e <;> cases e
    · obtain ⟨s, hs, rfl⟩ := sub i t ht
      exact sh.lt i s hs
  refine ((hc w (hT.to sh _ _)).2.2 ρ w sh' hargs).mono fun e w' he => ?_
  obtain ⟨ρ', v, h', n', h1, h2, rfl, h4, h5, rfl⟩ := he
  exact ⟨by rw [den_congr h1 _ hrl], sh.keep h5.keeps⟩
/-- A number's text. -/
def decL (m : Nat) : List UInt8 := Lib.decDigits m
theorem decL_len (m : Nat) (h : m < 10000000000) : (decL m).length ≤ 10 := by
  unfold decL
  rw [Lib.decDigits_length]
  have key : ∀ (k m : Nat), m < 10 ^ (k + 1) → Lib.nDigits m ≤ k + 1 := fun k => by
    induction k with
    | zero => intro m hm; rw [Lib.nDigits_small (by simpa using hm)]; exact Nat.le_refl _
    | succ k ih =>
      intro m hm
      by_cases h10 : m < 10
      · rw [Lib.nDigits_small h10]; omega
      · rw [Lib.nDigits_big h10]
        have := ih (m / 10) (by rw [Nat.pow_succ] at hm; omega)
        omega
  exact key 9 m (by simpa using h)
section
variable (cx : Cx) (h : List (Nat × Seg)) (n : Nat)
theorem format_Q (hT : TabOk cx) (m : Nat) (hm : m < 10000000000) : CallQ Tryz.prog cx 68 [.int .i64 m, .int .i64 10] h n (.str (S8 (decL m))) := by
  refine ⟨Tryz.call68, by simp only [go_sem, and_self], trivial, fun ρ w sh _ => ?_⟩
  refine (Tryz.strconv_FormatInt_10 (m : Int) (by omega) (by omega) w (hT w sh.keeps)).mono fun e w' he => ?_
  obtain ⟨rfl, k, os, rfl⟩ := he
  refine ⟨?_, sh.keep ⟨rfl, rfl, rfl, by simp [Go.Sort.grow], fun b hb => ObjK.of_eq (Go.Sort.heap_grow_old (w.drewN k) os hb)⟩⟩
  have e1 : Lib.itoa (m : Int) = decL m := by unfold Lib.itoa decL; rw [if_neg (by omega)]; rfl
  rw [e1]; rfl
theorem decimal_Q (hT : TabOk cx) (m : Nat) (hm : m < 10000000000) : CallQ Tryz.prog cx 53 [.int .i64 m] h n (.str (S8 (decL m))) := by
  refine callQ_of_T (P := Tryz.prog) hti (nt := 5) (rs := [.tmp 2]) rfl rfl Tryz.call53 Tryz.func53 rfl _ (by simp only [go_sem, and_self]) (Nat.le_of_ble_eq_true rfl) _ (by first | exact trivial | (refine lt_flat rfl ?_; simp [SV.flat]; done) | simp only [go_sem]) fun hok => ?_
  simp only [go_sem, Nat.reduceLT]
  refine (format_Q _ _ _ (hT.sub _ _) m hm).A ?_
  simp only [go_sem, Nat.reduceLT]
end
end Go.Proofs.YtkanbbfddlhlcaaGreatDoor.V

/- The texts of sheets: a cell's word, both codes: the walks. -/
namespace Go.Proofs.YtkanbbfddlhlcaaGreatDoor.V
/-- A cell's word. -/
def wdS (S : Sh) (x y : Int) : List UInt8 := if waxB S x y then [119] else decL (S.wet y x).toNat ++ [58] ++ decL (S.dye y x 0).toNat ++ [44] ++ decL (S.dye y x 1).toNat ++ [44] ++ decL (S.dye y x 2).toNat
theorem wdS_len {S : Sh} (hG : Good S) {x y : Int} (hx : 0 ≤ x) (hx8 : x < 8) (hy : 0 ≤ y) (hy8 : y < 8) : (wdS S x y).length ≤ 100 := by
  have h0 := hG.dye y x 0 hy hy8 hx hx8 (by omega) (by omega)
  have h1 := hG.dye y x 1 hy hy8 hx hx8 (by omega) (by omega)
  have h2 := hG.dye y x 2 hy hy8 hx hx8 (by omega) (by omega)
  have h3 := hG.wet y x hy hy8 hx hx8
  unfold wdS
  split
  · simp
  · have a0 := decL_len (S.wet y x).toNat (by omega)
    have a1 := decL_len (S.dye y x 0).toNat (by omega)
    have a2 := decL_len (S.dye y x 1).toNat (by omega)
    have a3 := decL_len (S.dye y x 2).toNat (by omega)
    simp only [List.length_append, List.length_singleton]
    omega
section
variable (cx : Cx) (h : List (Nat × Seg)) (n : Nat)
theorem decimal_I (hT : TabOk cx) (m : Int) (h0 : 0 ≤ m) (h1 : m ≤ 100000) : CallQ Tryz.prog cx 53 [.int .i64 m] h n (.str (S8 (decL m.toNat))) := by
  obtain ⟨k, rfl⟩ := Int.eq_ofNat_of_zero_le h0
  exact decimal_Q _ _ _ hT k (by omega)
set_option maxRecDepth 20000 in
theorem word_Q (hT : TabOk cx) (jb i o : Nat) (s sb : Seg) (S : Sh) (x y : Int) (hb : hget h jb = some sb) (hbi : jb < n) (hb1 : sb.n = 1) (hb2 : sb.c 0 = .ptr i o) (hs : hget h i = some s) (hi : i < n) (hS : ShAt s o S) (hG : Good S) (hx : 0 ≤ x) (hx8 : x < 8) (hy : 0 ≤ y) (hy8 : y < 8) :
    CallQ Tryz.prog cx 52 [spot x y, .ptr jb 0] h n (.str (S8 (wdS S x y))) := by
  obtain ⟨sbn, sbc, sbr, sbo⟩ := sb
  simp only at hb1 hb2
  subst hb1
  have h0 := hG.dye y x 0 hy hy8 hx hx8 (by omega) (by omega)
  have h1 := hG.dye y x 1 hy hy8 hx hx8 (by omega) (by omega)
  have h2 := hG.dye y x 2 hy hy8 hx hx8 (by omega) (by omega)
  have h3 := hG.wet y x hy hy8 hx hx8
  have e119 : (⟨#[119]⟩ : ByteArray) = S8 [119] := rfl
  have e58 : (⟨#[58]⟩ : ByteArray) = S8 [58] := rfl
  have e44 : (⟨#[44]⟩ : ByteArray) = S8 [44] := rfl
  refine callQ_of_T (P := Tryz.prog) hti (nt := 33) (rs := [.tmp 3]) rfl rfl Tryz.call52 Tryz.func52 rfl _ (by simp only [go_sem, and_self]) (Nat.le_of_ble_eq_true rfl) _ (by first | exact trivial | (refine lt_flat rfl ?_; simp [SV.flat]; done) | simp only [go_sem]) fun hok => ?_
  simp only [go_sem, Nat.reduceLT, hb, hbi, hb2]
  refine (waxed_Q _ _ _ i o s S x y (by simp only [go_sem, hs, hi]) (by omega) hS hx hy hy8).A ?_
  cases hwx : waxB S x y
  rotate_left
  · have e : wdS S x y = [119] := by unfold wdS; rw [hwx, if_pos rfl]
    simp only [go_sem, Nat.reduceLT, e119, e]
  have e : wdS S x y = decL (S.wet y x).toNat ++ [58] ++ decL (S.dye y x 0).toNat ++ [44] ++ decL (S.dye y x 1).toNat ++ [44] ++ decL (S.dye y x 2).toNat := by unfold wdS; rw [hwx, if_neg (by simp)]
  rw [e]
  have a0 := decL_len (S.wet y x).toNat (by omega)
  have a1 := decL_len (S.dye y x 0).toNat (by omega)
  have a2 := decL_len (S.dye y x 1).toNat (by omega)
  have a3 := decL_len (S.dye y x 2).toNat (by omega)
  simp only [go_sem, Nat.reduceLT, hb, hbi, hb2]
  refine (dye_Q _ _ _ i o s S x y (by simp only [go_sem, hs, hi]) (by omega) hS hx hx8 hy hy8).A ?_
  simp only [go_sem, Nat.reduceLT, Nat.reduceEqDiff, reduceIte, hb, hbi, hb2]
  refine T_drawG hti 23 [] (.b 0 0 (.b 0 1 (.b 0 5 (.b 0 6 (.b 0 7 (.b 0 11 (.b 0 12 (.b 0 13 (.b 0 17 (.b 0 18 (.b 0 19 (.b 1 2 (.b 1 3 (.b 0 4 (.b 1 8 (.b 0 9 (.b 0 10 (.b 1 14 (.b 0 15 (.b 0 16 (.b 1 20 (.b 0 21 (.b 0 22 (.f) .o) .o) .o) .o) .o) .o) .o) .o) .o) .o) .o) .o) .o) .o) .o) .o) .o) .o) .o) .o) .o) .o) .o) _ _ (by kernel_rfl) (by kernel_rfl) ?_
  simp only [go_sem, Nat.reduceLT, Nat.reduceLeDiff, Int.reduceToNat, Int.reduceLE, Int.reduceLT, hb, hbi, hb2, w64 (n := S.dye y x 0) (by omega), w64 (n := S.dye y x 1) (by omega), w64 (n := S.dye y x 2) (by omega)]
  refine CallQ.F _ (fun h' n' hn' hx' => wet_Q _ h' n' i o s S x y (hx' i (by omega) _ (by first | (simp only [go_sem, hs, hi]; done) | (simp only [go_sem, Nat.reduceBEq, Nat.reduceLT, Nat.reduceLeDiff, Nat.reduceAdd, Nat.reduceMul, Nat.reduceSub, Nat.reduceMod, Nat.reduceDiv, Nat.reduceEqDiff, Int.reduceToNat, reduceIte, reduceCtorEq, Int.reduceLE, Int.reduceLT, Int.reduceEq, Int.reduceNeg, Int.reduceAdd, Int.reduceSub, Int.reduceMul, hs, hi]; rfl))) (by omega) hS hx hx8 hy hy8) ?_
  simp only [go_sem, Nat.reduceLT]
  refine CallQ.F _ (fun h' n' hn' hx' => decimal_I _ h' n' (hT.sub _ _) (S.wet y x) (by omega) (by omega)) ?_
  simp only [go_sem, Nat.reduceLT, Nat.reduceLeDiff, e58, List.length_append, List.length_singleton]
  refine ⟨by omega, CallQ.F _ (fun h' n' hn' hx' => decimal_I _ h' n' (hT.sub _ _) (S.dye y x 0) (by omega) (by omega)) ?_⟩
  simp only [go_sem, Nat.reduceLT, Nat.reduceLeDiff, e44, List.length_append, List.length_singleton]
  refine ⟨by omega, by omega, CallQ.F _ (fun h' n' hn' hx' => decimal_I _ h' n' (hT.sub _ _) (S.dye y x 1) (by omega) (by omega)) ?_⟩
  simp only [go_sem, Nat.reduceLT, Nat.reduceLeDiff, e44, List.length_append, List.length_singleton]
  refine ⟨by omega, by omega, CallQ.F _ (fun h' n' hn' hx' => decimal_I _ h' n' (hT.sub _ _) (S.dye y x 2) (by omega) (by omega)) ?_⟩
  simp only [go_sem, Nat.reduceLT, e44, List.length_append, List.length_singleton]
  omega
  done
end
end Go.Proofs.YtkanbbfddlhlcaaGreatDoor.V

/- The texts of sheets, both codes: the walks. -/
namespace Go.Proofs.YtkanbbfddlhlcaaGreatDoor.V
def wdN (S : Sh) (x y : Nat) : List UInt8 := if x < 8 ∧ y < 8 then wdS S x y else []
theorem wdN_len {S : Sh} (hG : Good S) (x y : Nat) : (wdN S x y).length ≤ 100 := by
  unfold wdN
  split
  · rename_i h
    exact wdS_len hG (by omega) (by omega) (by omega) (by omega)
  · simp
theorem wdN_in {S : Sh} {x y : Nat} (hx : x < 8) (hy : y < 8) : wdN S x y = wdS S x y := by unfold wdN; rw [if_pos ⟨hx, hy⟩]
/-- The text of a sheet. -/
def textS (S : Sh) : List UInt8 := linesK S.wide.toNat [32] (wdN S) S.high.toNat
theorem textS_len {S : Sh} (hV : Valid S) : (textS S).length ≤ 100000 := by
  have hsm := hV.1
  unfold Small at hsm
  have := linesK_le (W := S.wide.toNat) (sep := [32]) (wd := wdN S) (by simp) (fun x y => by have := wdN_len hV.good x y; omega) (by omega) S.high.toNat
  unfold textS
  omega
section
variable (cx : Cx) (h : List (Nat × Seg)) (n : Nat)
theorem lines_QT (hT : TabOk cx) (j o : Nat) (sg : Seg) (W H : Nat) (sep : List UInt8) (f a b : Nat) (G F : Nat → SV) (wd : Nat → Nat → List UInt8)
    (hs : hget h j = some sg) (hj : j < n) (ho : o + 2 ≤ sg.n) (hw : sg.c o = .int .i8 W) (hh : sg.c (o + 1) = .int .i8 H) (w1 : 1 ≤ W) (hW8 : W ≤ 8) (h1 : 1 ≤ H) (h8 : H ≤ 8) (hsep : sep.length ≤ 10) (hwd : ∀ x y, (wd x y).length ≤ 1000) (hF : (SV.fn f a G b F).lt n)
    (hof : ∀ (x y : Nat), x < W → y < H → ∀ (w0 : World), TabOk ⟨w0, Noth, 0, n⟩ → ∀ (nt n0 : Nat) (h' : List (Nat × Seg)) (n' : Nat), n ≤ n' → HExt n (ro h) h' → CallQ Tryz.prog ⟨w0, Noth, nt, n0⟩ f (lst a G ++ [spot x y] ++ lst b F) h' n' (.str (S8 (wd x y)))) :
    CallQ Tryz.prog cx 51 [.ptr j o, .str (S8 sep), .fn f a G b F] h n (.str (S8 (linesK W sep wd H))) :=
  callQ_freshT hT trivial Tryz.call51 (by simp only [go_sem, and_self]) fun w0 hw0 => lines_E h n w0 j o sg W H sep f a b G F wd hs hj ho hw hh w1 hW8 h1 h8 hsep hwd hF fun x y hx hy => hof x y hx hy w0 hw0
theorem text_Q (hT : TabOk cx) (i o : Nat) (s : Seg) (S : Sh) (hs : hget h i = some s) (hi : i < n) (hS : ShAt s o S) (hV : Valid S) :
    CallQ Tryz.prog cx 25 [.ptr i o] h n (.str (S8 (textS S))) := by
  have hsm := hV.1
  unfold Small at hsm
  have hw := hS.wide
  have hh := hS.high
  obtain ⟨W, hW⟩ : ∃ W : Nat, S.wide = W := ⟨S.wide.toNat, by omega⟩
  obtain ⟨H, hH⟩ : ∃ H : Nat, S.high = H := ⟨S.high.toNat, by omega⟩
  rw [hW] at hw
  rw [hH] at hh
  have e : textS S = linesK W [32] (wdN S) H := by unfold textS; rw [hW, hH]; rfl
  have e32 : (⟨#[32]⟩ : ByteArray) = S8 [32] := rfl
  rw [e]
  refine callQ_of_T (P := Tryz.prog) hti (nt := 6) (rs := [.tmp 2]) rfl rfl Tryz.call25 Tryz.func25 rfl _ (by simp only [go_sem, and_self]) (Nat.le_of_ble_eq_true rfl) _ (by first | exact trivial | (refine lt_flat rfl ?_; simp [SV.flat]; done) | simp only [go_sem]) fun hok => ?_
  simp only [go_sem, Nat.reduceLT]
  rw [e32]
  have hgi : hget ((n, ⟨1, cl [.ptr i o], true, none⟩) :: h) i = some s := (by first | (simp only [go_sem, hs, hi]; done) | (simp only [go_sem, Nat.reduceBEq, Nat.reduceLT, Nat.reduceLeDiff, Nat.reduceAdd, Nat.reduceMul, Nat.reduceSub, Nat.reduceMod, Nat.reduceDiv, Nat.reduceEqDiff, Int.reduceToNat, reduceIte, reduceCtorEq, Int.reduceLE, Int.reduceLT, Int.reduceEq, Int.reduceNeg, Int.reduceAdd, Int.reduceSub, Int.reduceMul, hs, hi]; rfl))
  refine (lines_QT _ _ _ (hT.sub _ _) i o s W H [32] 52 0 1 (cl []) (cl [.ptr n 0]) (wdN S) hgi (by omega) (by have := hS.1; omega) hw hh (by omega) (by omega) (by omega) (by omega) (by simp) (fun x y => by have := wdN_len hV.good x y; omega) ⟨fun j hj => absurd hj (Nat.not_lt_zero j), fun j hj => ?_⟩ fun x y hx hy w0 hw0 nt n0 h' n' hn' hx' => ?_).A ?_
  · have hj : j < 1 := hj
    match j with
    | 0 => show n < n + 1; omega
    | j + 1 => omega
  · rw [wdN_in (by omega) (by omega)]
    exact word_Q _ h' n' (hw0.sub _ _) n i o (roS s) _ S x y (hx' n (by omega) _ (ro_some (hget_hit _ _ _))) (by omega) rfl rfl (hx' i (by omega) _ (ro_some hgi)) (by omega) hS hV.good (by omega) (by omega) (by omega) (by omega)
  · simp only [go_sem, Nat.reduceLT]
end
end Go.Proofs.YtkanbbfddlhlcaaGreatDoor.V

/- Plain laws: numbers and words of a sheet's text, taken apart. -/
namespace Go.Proofs.YtkanbbfddlhlcaaGreatDoor.V
theorem dec_small {m : Nat} (h : m < 10) : decL m = [UInt8.ofNat (48 + m)] := Lib.decDigits_one h
theorem dec_big {m : Nat} (h : ¬ m < 10) : decL m = decL (m / 10) ++ [UInt8.ofNat (48 + m % 10)] := by
  unfold decL
  conv => lhs; rw [Lib.decDigits, dif_neg h]
/-- The number of digits. -/
def valD (s : List UInt8) : Nat := s.foldl (fun n b => 10 * n + (b.toNat - 48)) 0
theorem valD_snoc (l : List UInt8) (b : UInt8) : valD (l ++ [b]) = 10 * valD l + (b.toNat - 48) := by simp [valD, List.foldl_append]
def isDig (b : UInt8) : Bool := decide (48 ≤ b.toNat ∧ b.toNat ≤ 57)
theorem dig_ofNat {d : Nat} (h : d < 10) : (UInt8.ofNat (48 + d)).toNat = 48 + d := by simp; omega
theorem dec_dig : ∀ (m : Nat), ∀ b ∈ decL m, isDig b = true := fun m => by
  induction m using Nat.strongRecOn with
  | ind m ih =>
    intro b hb
    by_cases h : m < 10
    · rw [dec_small h, List.mem_singleton] at hb
      subst hb
      unfold isDig
      rw [dig_ofNat h]; simp; omega
    · rw [dec_big h, List.mem_append, List.mem_singleton] at hb
      rcases hb with hb | rfl
      · exact ih (m / 10) (by omega) b hb
      · unfold isDig
        rw [dig_ofNat (Nat.mod_lt _ (by omega))]; simp; omega
theorem dec_val : ∀ m : Nat, valD (decL m) = m := fun m => by
  induction m using Nat.strongRecOn with
  | ind m ih =>
    by_cases h : m < 10
    · rw [dec_small h]
      show 10 * 0 + ((UInt8.ofNat (48 + m)).toNat - 48) = m
      rw [dig_ofNat h]; omega
    · rw [dec_big h, valD_snoc, ih (m / 10) (by omega), dig_ofNat (Nat.mod_lt _ (by omega))]
      omega
theorem dec_ne (m : Nat) : decL m ≠ [] := by
  by_cases h : m < 10
  · rw [dec_small h]; simp
  · rw [dec_big h]; simp
theorem dec_head : ∀ m : Nat, 0 < m → (decL m).head? ≠ some 48 := fun m => by
  induction m using Nat.strongRecOn with
  | ind m ih =>
    intro h0
    by_cases h : m < 10
    · rw [dec_small h]
      intro e
      simp only [List.head?_cons, Option.some.injEq] at e
      have := congrArg UInt8.toNat e
      rw [dig_ofNat h] at this
      have h2 : (48 : UInt8).toNat = 48 := rfl
      omega
    · rw [dec_big h]
      have := ih (m / 10) (by omega) (by omega)
      cases e : decL (m / 10) with
      | nil => exact absurd e (dec_ne _)
      | cons a l => rw [e] at this; simpa using this
/-- A number of at most nine digits, without a sign or a zero ahead. -/
def numO (s : List UInt8) : Option Nat := if s = [] ∨ 9 < s.length ∨ (s.head? = some 48 ∧ 1 < s.length) then none else if s.all isDig then some (valD s) else none
theorem numO_dec {m : Nat} (h : m < 1000000000) : numO (decL m) = some m := by
  unfold numO
  have hl : ¬ 9 < (decL m).length := by
    unfold decL
    rw [Lib.decDigits_length]
    have key : ∀ (k m : Nat), m < 10 ^ (k + 1) → Lib.nDigits m ≤ k + 1 := fun k => by
      induction k with
      | zero => intro m hm; rw [Lib.nDigits_small (by simpa using hm)]; exact Nat.le_refl _
      | succ k ih =>
        intro m hm
        by_cases h10 : m < 10
        · rw [Lib.nDigits_small h10]; omega
        · rw [Lib.nDigits_big h10]
          have := ih (m / 10) (by rw [Nat.pow_succ] at hm; omega)
          omega
    have := key 8 m (by simpa using h)
    omega
  rw [if_neg, if_pos (by rw [List.all_eq_true]; exact dec_dig m), dec_val]
  rintro (e | e | ⟨e, e2⟩)
  · exact dec_ne m e
  · exact hl e
  · by_cases h0 : m < 10
    · rw [dec_small h0] at e2; simp at e2
    · exact dec_head m (by omega) e
theorem dec_of_digits : ∀ (k : Nat) (s : List UInt8), s.length = k + 1 → s.all isDig = true → (s.head? = some 48 → s.length = 1) → s = decL (valD s)
  | 0, s, hl, hd, _ => by
    obtain ⟨b, rfl⟩ : ∃ b, s = [b] := by
      cases s with
      | nil => simp at hl
      | cons b l => cases l with
        | nil => exact ⟨b, rfl⟩
        | cons c l => simp at hl
    have hb : 48 ≤ b.toNat ∧ b.toNat ≤ 57 := by simpa [isDig] using hd
    have hv : valD [b] = b.toNat - 48 := by show 10 * 0 + (b.toNat - 48) = _; omega
    rw [hv, dec_small (by omega)]
    congr 1
    apply UInt8.toNat_inj.1
    rw [dig_ofNat (by omega)]; omega
  | k + 1, s, hl, hd, hz => by
    obtain ⟨l, b, rfl⟩ : ∃ l b, s = l ++ [b] := ⟨s.dropLast, s.getLast (by intro e; subst e; simp at hl), (List.dropLast_concat_getLast _).symm⟩
    have hll : l.length = k + 1 := by simpa using hl
    rw [List.all_append, Bool.and_eq_true] at hd
    have hb : 48 ≤ b.toNat ∧ b.toNat ≤ 57 := by simpa [isDig] using hd.2
    have hh : l.head? ≠ some 48 := fun e => by
      have : (l ++ [b]).head? = some 48 := by cases l with
        | nil => simp at hll
        | cons a l => simpa using e
      have := hz this
      omega
    have ih := dec_of_digits k l hll hd.1 (fun e => absurd e hh)
    have hpos : 0 < valD l := by
      rcases Nat.eq_zero_or_pos (valD l) with h0 | h0
      · rw [h0] at ih; rw [ih] at hh; exact absurd (by rw [dec_small (by omega)]; rfl) hh
      · exact h0
    rw [valD_snoc, dec_big (by omega), show (10 * valD l + (b.toNat - 48)) / 10 = valD l by omega, show (10 * valD l + (b.toNat - 48)) % 10 = b.toNat - 48 by omega, ← ih]
    congr 1
    congr 1
    apply UInt8.toNat_inj.1
    rw [dig_ofNat (by omega)]; omega
theorem dec_of_numO {s : List UInt8} {m : Nat} (h : numO s = some m) : s = decL m := by
  unfold numO at h
  split at h
  · cases h
  · rename_i hn
    simp only [not_or, not_and] at hn
    split at h
    · rename_i hd
      cases h
      obtain ⟨k, hk⟩ : ∃ k, s.length = k + 1 := ⟨s.length - 1, by have := List.length_pos_iff.2 hn.1; omega⟩
      exact dec_of_digits k s hk hd (fun e => by have := hn.2.2 e; omega)
    · cases h
theorem dec_not {c : UInt8} (h : isDig c = false) (m : Nat) : c ∉ decL m := fun hm => by rw [dec_dig m c hm] at h; cases h
/-- What a cell's word tells: nothing where it is waxed. -/
def wordV (wet d0 d1 d2 : Nat) : List UInt8 := decL wet ++ [58] ++ decL d0 ++ [44] ++ decL d1 ++ [44] ++ decL d2
def pwO (w : List UInt8) : Option (Option (Nat × Nat × Nat × Nat)) :=
  if w = [119] then some none else
  match spl 58 w with
  | [a, b] => match spl 44 b with
    | [x, y, z] => match numO a, numO x, numO y, numO z with
      | some m, some p, some q, some r => if m ≤ 200 ∧ p ≤ 1000 ∧ q ≤ 1000 ∧ r ≤ 1000 then some (some (m, p, q, r)) else none
      | _, _, _, _ => none
    | _ => none
  | _ => none
theorem word_spl (m p q r : Nat) : spl 58 (wordV m p q r) = [decL m, decL p ++ 44 :: (decL q ++ 44 :: decL r)] ∧ spl 44 (decL p ++ 44 :: (decL q ++ 44 :: decL r)) = [decL p, decL q, decL r] := by
  have e : wordV m p q r = decL m ++ 58 :: (decL p ++ 44 :: (decL q ++ 44 :: decL r)) := by simp [wordV]
  refine ⟨?_, ?_⟩
  · rw [e, spl_app _ (dec_not (by decide) m), spl_none]
    simp only [List.mem_append, List.mem_cons, not_or]
    exact ⟨dec_not (by decide) p, by decide, dec_not (by decide) q, by decide, dec_not (by decide) r⟩
  · rw [spl_app _ (dec_not (by decide) p), spl_app _ (dec_not (by decide) q), spl_none (dec_not (by decide) r)]
theorem wordV_ne (m p q r : Nat) : wordV m p q r ≠ [119] := fun e => by
  have : (58 : UInt8) ∈ wordV m p q r := by simp [wordV]
  rw [e] at this
  simp at this
theorem pwO_word {m p q r : Nat} (h : m ≤ 200 ∧ p ≤ 1000 ∧ q ≤ 1000 ∧ r ≤ 1000) : pwO (wordV m p q r) = some (some (m, p, q, r)) := by
  obtain ⟨e1, e2⟩ := word_spl m p q r
  unfold pwO
  rw [if_neg (wordV_ne m p q r), e1]
  simp only
  rw [e2]
  simp only
  rw [numO_dec (by omega), numO_dec (by omega), numO_dec (by omega), numO_dec (by omega)]
  simp only
  rw [if_pos h]
theorem word_pwO {w : List UInt8} {v : Option (Nat × Nat × Nat × Nat)} (h : pwO w = some v) : (w = [119] ∧ v = none) ∨ ∃ m p q r, v = some (m, p, q, r) ∧ w = wordV m p q r ∧ m ≤ 200 ∧ p ≤ 1000 ∧ q ≤ 1000 ∧ r ≤ 1000 := by
  unfold pwO at h
  split at h
  · rename_i hw; cases h; exact .inl ⟨hw, rfl⟩
  · right
    split at h
    · rename_i a b hab
      split at h
      · rename_i x y z hxyz
        split at h
        · rename_i m p q r hm hp hq hr
          split at h
          · rename_i hle
            cases h
            refine ⟨m, p, q, r, rfl, ?_, hle⟩
            have j1 := spl_join 58 w
            have j2 := spl_join 44 b
            rw [hab] at j1
            rw [hxyz] at j2
            rw [dec_of_numO hm] at j1
            rw [dec_of_numO hp, dec_of_numO hq, dec_of_numO hr] at j2
            rw [← j1, ← j2]
            simp [Lib.join_cons, Lib.joinTail, wordV]
          · cases h
        · cases h
      · cases h
    · cases h
theorem word_no {c : UInt8} (h : isDig c = false) (h1 : c ≠ 58) (h2 : c ≠ 44) (m p q r : Nat) : c ∉ wordV m p q r := by
  unfold wordV
  simp only [List.mem_append, List.mem_singleton, not_or]
  exact ⟨⟨⟨⟨⟨⟨dec_not h m, h1⟩, dec_not h p⟩, h2⟩, dec_not h q⟩, h2⟩, dec_not h r⟩
end Go.Proofs.YtkanbbfddlhlcaaGreatDoor.V

/- Plain laws: packed pictures: letters, runs; a newline replaced by nothing. -/
namespace Go.Proofs.YtkanbbfddlhlcaaGreatDoor.V
theorem join_flatJ (L : List (List UInt8)) : Lib.join L [] = L.flatten := by
  cases L with
  | nil => rfl
  | cons a L => rw [Lib.join_cons]; simp [Lib.joinTail]
/-- The letter of a number. -/
def ltr (v : Int) : UInt8 := if v = 0 then 46 else if v = 1 then 97 else if v = 2 then 98 else 99
theorem ltr_inj {v w : Int} (h0 : 0 ≤ v ∧ v ≤ 3) (h1 : 0 ≤ w ∧ w ≤ 3) (h : ltr v = ltr w) : v = w := by
  have e : ∀ a b : Fin 4, ltr a.1 = ltr b.1 → a = b := by decide
  have := e ⟨v.toNat, by omega⟩ ⟨w.toNat, by omega⟩ (by rw [show ((v.toNat : Nat) : Int) = v by omega, show ((w.toNat : Nat) : Int) = w by omega]; exact h)
  have := congrArg Fin.val this
  simp only at this
  omega
end Go.Proofs.YtkanbbfddlhlcaaGreatDoor.V

/- Plain laws: pictures and their texts. -/
namespace Go.Proofs.YtkanbbfddlhlcaaGreatDoor.V
theorem ltr_not10 (v : Int) : ltr v ≠ 10 := by unfold ltr; (repeat' split) <;> decide
/-- The rows of a picture's text. -/
def rowsP (P : Pc) : List (List UInt8) := (List.range P.high.toNat).map fun y : Nat => (List.range P.wide.toNat).map fun x : Nat => ltr (P.ink y x)
/-- The text of a picture. -/
def pT (P : Pc) : List UInt8 := linesK P.wide.toNat [] (fun x y : Nat => [ltr (P.ink y x)]) P.high.toNat
def nlL (L : List (List UInt8)) : List UInt8 := (L.map fun l => l ++ [10]).flatten
theorem nlL_join : ∀ (L : List (List UInt8)), nlL L = Lib.join (L ++ [[]]) [10]
  | [] => by simp [nlL, Lib.join_cons, Lib.joinTail]
  | [a] => by simp [nlL, Lib.join_cons, Lib.joinTail]
  | a :: b :: L => by
    have ih := nlL_join (b :: L)
    have e : Lib.join (a :: b :: L ++ [[]]) [10] = a ++ 10 :: Lib.join (b :: L ++ [[]]) [10] := by
      rw [List.cons_append, List.cons_append, Lib.join_cons, Lib.join_cons]; simp [Lib.joinTail]
    rw [e, ← ih]
    simp [nlL]
theorem pT_rows (P : Pc) : pT P = nlL (rowsP P) := by
  unfold pT rowsP nlL
  generalize P.high.toNat = H
  generalize P.wide.toNat = W
  have hr : ∀ y : Nat, rowL W [] (fun x y : Nat => [ltr (P.ink y x)]) y = (List.range W).map fun x : Nat => ltr (P.ink y x) := fun y => by
    unfold rowL
    rw [join_flatJ]
    have : ∀ l : List Nat, (l.map fun x : Nat => [ltr (P.ink y x)]).flatten = l.map fun x : Nat => ltr (P.ink y x) := fun l => by
      induction l with
      | nil => rfl
      | cons a l ih => rw [List.map_cons, List.flatten_cons, ih]; rfl
    exact this _
  induction H with
  | zero => rfl
  | succ H ih => rw [linesK, ih, hr, List.range_succ, List.map_append, List.map_append, List.flatten_append]; simp
theorem rowsP_not10 {P : Pc} {l : List UInt8} (h : l ∈ rowsP P) : (10 : UInt8) ∉ l := by
  unfold rowsP at h
  obtain ⟨y, _, rfl⟩ := List.mem_map.1 h
  intro hm
  obtain ⟨x, _, hx⟩ := List.mem_map.1 hm
  exact ltr_not10 _ hx
theorem rowsP_len (P : Pc) : (rowsP P).length = P.high.toNat := by simp [rowsP]
theorem rowsP_get (P : Pc) {y : Nat} (h : y < P.high.toNat) : (rowsP P).getD y [] = (List.range P.wide.toNat).map fun x : Nat => ltr (P.ink y x) := by simp [rowsP, List.getD_eq_getElem?_getD, h]
theorem rowsP_getlen (P : Pc) {y : Nat} (h : y < P.high.toNat) : ((rowsP P).getD y []).length = P.wide.toNat := by rw [rowsP_get P h]; simp
theorem rowsP_at (P : Pc) {y x : Nat} (h : y < P.high.toNat) (hx : x < P.wide.toNat) : ((rowsP P).getD y []).getD x 0 = ltr (P.ink y x) := by rw [rowsP_get P h]; simp [List.getD_eq_getElem?_getD, hx]
/-- What the text of a picture gives when it is split. -/
theorem spl_pT (P : Pc) : spl 10 (pT P) = rowsP P ++ [[]] := by
  rw [pT_rows, nlL_join]
  refine spl_of_join (by simp) fun x hx => ?_
  rcases List.mem_append.1 hx with h | h
  · exact rowsP_not10 h
  · rw [List.mem_singleton.1 h]; simp
/-- Two valid pictures of one text. -/
theorem rows_inj {P Q : Pc} (hP : PcOk P) (hPR : PcR P) (hQ : PcOk Q) (hQR : PcR Q) (h : pT P = pT Q) : ∀ j, j < 66 → pcC P j = pcC Q j := by
  have hs : rowsP P = rowsP Q := by
    have e : rowsP P ++ [[]] = rowsP Q ++ [[]] := by rw [← spl_pT, ← spl_pT, h]
    exact List.append_cancel_right e
  have p1 := hP.1
  have q1 := hQ.1
  have hH : P.high = Q.high := by
    have := rowsP_len P
    rw [hs, rowsP_len] at this
    omega
  have hW : P.wide = Q.wide := by
    have a := rowsP_getlen P (y := 0) (by omega)
    have b := rowsP_getlen Q (y := 0) (by omega)
    rw [hs] at a
    omega
  have hI : ∀ y x : Nat, y < 8 → x < 8 → P.ink y x = Q.ink y x := fun y x hy hx => by
    have pk := hP.2 y x (by omega) (by omega) (by omega) (by omega)
    have qk := hQ.2 y x (by omega) (by omega) (by omega) (by omega)
    have pr := hPR.ink y x
    have qr := hQR.ink y x
    by_cases hin : (x : Int) < P.wide ∧ (y : Int) < P.high
    · have a := rowsP_at P (y := y) (x := x) (by omega) (by omega)
      have b := rowsP_at Q (y := y) (x := x) (by omega) (by omega)
      rw [hs] at a
      exact ltr_inj ⟨pr.1, pk.1⟩ ⟨qr.1, qk.1⟩ (a.symm.trans b)
    · have a : ¬ 0 < P.ink y x := fun h => hin (pk.2 h)
      have b : ¬ 0 < Q.ink y x := fun h => hin (by have := qk.2 h; omega)
      omega
  intro j hj
  unfold pcC
  split
  · split
    · rw [hW]
    · rw [hH]
  · rw [hI _ _ (by omega) (by omega)]
/-- What reading gives: the picture of that text; else none. -/
def RdIs (s : List UInt8) (P : Pc) (c : Int) : Prop := (c = 0 ∧ PcOk P ∧ PcR P ∧ s = pT P) ∨ (c = 5 ∧ P = pc0 ∧ ¬ ∃ Q, PcOk Q ∧ PcR Q ∧ s = pT Q)
theorem RdIs.two {s : List UInt8} {P Q : Pc} {c d : Int} (h : RdIs s P c) (k : RdIs s Q d) : c = d ∧ ∀ j, j < 66 → pcC P j = pcC Q j := by
  rcases h with ⟨rfl, h1, h2, h3⟩ | ⟨rfl, rfl, h3⟩ <;> rcases k with ⟨rfl, k1, k2, k3⟩ | ⟨rfl, rfl, k3⟩
  · exact ⟨rfl, rows_inj h1 h2 k1 k2 (h3.symm.trans k3)⟩
  · exact absurd ⟨P, h1, h2, h3⟩ k3
  · exact absurd ⟨Q, k1, k2, k3⟩ h3
  · exact ⟨rfl, fun _ _ => rfl⟩
end Go.Proofs.YtkanbbfddlhlcaaGreatDoor.V

/- Plain laws: sheets read cell by cell; sheets and their texts. -/
namespace Go.Proofs.YtkanbbfddlhlcaaGreatDoor.V
/-- What a cell holds: wax; or water and dyes. -/
def CellIs (S : Sh) (x y : Int) : Option (Int × Int × Int × Int) → Prop
  | none => waxB S x y = true ∧ S.wet y x = 0 ∧ ∀ i, 0 ≤ i → i < 3 → S.dye y x i = 0
  | some (m, p, q, r) => waxB S x y = false ∧ S.wet y x = m ∧ S.dye y x 0 = p ∧ S.dye y x 1 = q ∧ S.dye y x 2 = r
/-- A sheet of which the first q cells have been read. -/
structure ReadI (W H q : Nat) (cv : Nat → Option (Int × Int × Int × Int)) (S : Sh) : Prop where
  R : ShR S
  wide : S.wide = W
  high : S.high = H
  done : ∀ k, k < q → CellIs S ((k % W : Nat) : Int) ((k / W : Nat) : Int) (cv k)
  rest : ∀ y x : Nat, y < 8 → x < 8 → (¬ (x < W ∧ y < H) ∨ q ≤ y * W + x) → waxB S x y = false ∧ S.wet y x = 0 ∧ ∀ i, 0 ≤ i → i < 3 → S.dye y x i = 0
theorem cell_inj {W a b : Nat} (hW : 0 < W) (h1 : a % W = b % W) (h2 : a / W = b / W) : a = b := by
  have e1 := Nat.div_add_mod a W
  have e2 := Nat.div_add_mod b W
  rw [h1, h2] at e1
  omega
theorem ReadI.zero {W H : Nat} (cv : Nat → Option (Int × Int × Int × Int)) (hW : W ≤ 8) (hH : H ≤ 8) : ReadI W H 0 cv ⟨W, H, fun _ _ => 0, fun _ _ _ => 0, fun _ => 0⟩ := by
  refine ⟨⟨by show -128 ≤ (W : Int) ∧ (W : Int) < 128; omega, by show -128 ≤ (H : Int) ∧ (H : Int) < 128; omega, fun _ _ => by show -32768 ≤ (0 : Int) ∧ (0 : Int) < 32768; omega, fun _ _ _ => by show -32768 ≤ (0 : Int) ∧ (0 : Int) < 32768; omega, fun _ => by show 0 ≤ (0 : Int) ∧ (0 : Int) < 256; omega⟩, rfl, rfl, fun k hk => absurd hk (Nat.not_lt_zero k), fun y x _ _ _ => ⟨?_, rfl, fun _ _ _ => rfl⟩⟩
  exact psh_wax ⟨W, H, fun _ _ => 0⟩ x y
section
variable {W H q : Nat} {cv : Nat → Option (Int × Int × Int × Int)} {S : Sh}
theorem ReadI.setWax (h : ReadI W H q cv S) (hW : 1 ≤ W ∧ W ≤ 8) (hH : H ≤ 8) (hq : q < H * W) (hc : cv q = none) :
    ReadI W H (q + 1) cv (S.setWax ((q / W : Nat) : Int) (bitsI .or .u8 (S.wax ((q / W : Nat) : Int)) (shlI .u8 1 ((q % W : Nat) : Int)))) := by
  have hx := Nat.mod_lt q (show 0 < W by omega)
  have hy := (Nat.div_lt_iff_lt_mul (show 0 < W by omega)).2 hq
  have hdm := Nat.div_add_mod q W
  obtain ⟨r1, r2, r3⟩ := h.rest (q / W) (q % W) (by omega) (by omega) (.inr (by rw [Nat.mul_comm]; omega))
  have hx8 : (0 : Int) ≤ ((q % W : Nat) : Int) ∧ ((q % W : Nat) : Int) < 8 := by
    generalize q % W = a at *
    omega
  refine ⟨h.R.setWax (or8 (h.R.wax _) hx8), h.wide, h.high, fun k hk => ?_, fun y x hy8 hx8' hr => ?_⟩
  · by_cases e : k = q
    · subst e
      rw [hc]
      refine ⟨?_, r2, r3⟩
      rw [waxB_or h.R hx8 hx8]; simp
    · have hd := h.done k (by omega)
      have hne : ¬ (((k / W : Nat) : Int) = ((q / W : Nat) : Int) ∧ ((k % W : Nat) : Int) = ((q % W : Nat) : Int)) := fun e2 => e (cell_inj (show 0 < W by omega) (by exact_mod_cast e2.2) (by exact_mod_cast e2.1))
      have hkx : (0 : Int) ≤ ((k % W : Nat) : Int) ∧ ((k % W : Nat) : Int) < 8 := by
        have := Nat.mod_lt k (show 0 < W by omega)
        generalize k % W = a at *
        omega
      have hw := waxB_or (y' := ((k / W : Nat) : Int)) (y := ((q / W : Nat) : Int)) h.R hx8 hkx
      rw [decide_eq_false hne, Bool.false_or] at hw
      cases hv : cv k with
      | none => rw [hv] at hd; exact ⟨hw.trans hd.1, hd.2⟩
      | some v =>
        obtain ⟨a, b, c, d⟩ := v
        rw [hv] at hd; exact ⟨hw.trans hd.1, hd.2⟩
  · obtain ⟨s1, s2, s3⟩ := h.rest y x hy8 hx8' (by omega)
    refine ⟨?_, s2, s3⟩
    rw [waxB_or h.R hx8 (by omega), s1, Bool.or_false, decide_eq_false_iff_not]
    rintro ⟨e1, e2⟩
    have e1 : y = q / W := by exact_mod_cast e1
    have e2 : x = q % W := by exact_mod_cast e2
    rcases hr with hr | hr
    · exact hr ⟨by omega, by omega⟩
    · rw [e1, e2, Nat.mul_comm] at hr; omega
theorem ReadI.setVal (h : ReadI W H q cv S) (hW : 1 ≤ W ∧ W ≤ 8) (hH : H ≤ 8) (hq : q < H * W) {m p u r : Int} (hc : cv q = some (m, p, u, r)) (hm : -32768 ≤ m ∧ m < 32768) (hp : -32768 ≤ p ∧ p < 32768) (hu : -32768 ≤ u ∧ u < 32768) (hr : -32768 ≤ r ∧ r < 32768) :
    ReadI W H (q + 1) cv ((((S.setWet ((q / W : Nat) : Int) ((q % W : Nat) : Int) m).setDye ((q / W : Nat) : Int) ((q % W : Nat) : Int) 0 p).setDye ((q / W : Nat) : Int) ((q % W : Nat) : Int) 1 u).setDye ((q / W : Nat) : Int) ((q % W : Nat) : Int) 2 r) := by
  have hx := Nat.mod_lt q (show 0 < W by omega)
  have hy := (Nat.div_lt_iff_lt_mul (show 0 < W by omega)).2 hq
  have hdm := Nat.div_add_mod q W
  obtain ⟨r1, r2, r3⟩ := h.rest (q / W) (q % W) (by omega) (by omega) (.inr (by rw [Nat.mul_comm]; omega))
  refine ⟨((((h.R.setWet hm).setDye hp).setDye hu).setDye hr), h.wide, h.high, fun k hk => ?_, fun y x hy8 hx8' hr' => ?_⟩
  · by_cases e : k = q
    · subst e
      rw [hc]
      refine ⟨r1, ?_, ?_, ?_, ?_⟩ <;> simp [Sh.setDye, Sh.setWet]
    · have hd := h.done k (by omega)
      have hne : ¬ (((k / W : Nat) : Int) = ((q / W : Nat) : Int) ∧ ((k % W : Nat) : Int) = ((q % W : Nat) : Int)) := fun e2 => e (cell_inj (show 0 < W by omega) (by exact_mod_cast e2.2) (by exact_mod_cast e2.1))
      have hdy : ∀ i, ((((S.setWet ((q / W : Nat) : Int) ((q % W : Nat) : Int) m).setDye ((q / W : Nat) : Int) ((q % W : Nat) : Int) 0 p).setDye ((q / W : Nat) : Int) ((q % W : Nat) : Int) 1 u).setDye ((q / W : Nat) : Int) ((q % W : Nat) : Int) 2 r).dye ((k / W : Nat) : Int) ((k % W : Nat) : Int) i = S.dye ((k / W : Nat) : Int) ((k % W : Nat) : Int) i := fun i => by
        simp only [Sh.setDye, Sh.setWet]
        rw [if_neg (fun e => hne ⟨e.1, e.2.1⟩), if_neg (fun e => hne ⟨e.1, e.2.1⟩), if_neg (fun e => hne ⟨e.1, e.2.1⟩)]
      have hwt : ((((S.setWet ((q / W : Nat) : Int) ((q % W : Nat) : Int) m).setDye ((q / W : Nat) : Int) ((q % W : Nat) : Int) 0 p).setDye ((q / W : Nat) : Int) ((q % W : Nat) : Int) 1 u).setDye ((q / W : Nat) : Int) ((q % W : Nat) : Int) 2 r).wet ((k / W : Nat) : Int) ((k % W : Nat) : Int) = S.wet ((k / W : Nat) : Int) ((k % W : Nat) : Int) := by
        simp only [Sh.setDye, Sh.setWet]
        rw [if_neg hne]
      cases hv : cv k with
      | none => rw [hv] at hd; exact ⟨hd.1, hwt.trans hd.2.1, fun i a b => (hdy i).trans (hd.2.2 i a b)⟩
      | some v =>
        obtain ⟨a, b, c, d⟩ := v
        rw [hv] at hd; exact ⟨hd.1, hwt.trans hd.2.1, (hdy 0).trans hd.2.2.1, (hdy 1).trans hd.2.2.2.1, (hdy 2).trans hd.2.2.2.2⟩
  · obtain ⟨s1, s2, s3⟩ := h.rest y x hy8 hx8' (by omega)
    have hne : ¬ ((y : Int) = ((q / W : Nat) : Int) ∧ (x : Int) = ((q % W : Nat) : Int)) := by
      rintro ⟨e1, e2⟩
      have e1 : y = q / W := by exact_mod_cast e1
      have e2 : x = q % W := by exact_mod_cast e2
      rcases hr' with hr' | hr'
      · exact hr' ⟨by omega, by omega⟩
      · rw [e1, e2, Nat.mul_comm] at hr'; omega
    refine ⟨s1, ?_, fun i a b => ?_⟩
    · simp only [Sh.setDye, Sh.setWet]
      rw [if_neg hne]; exact s2
    · simp only [Sh.setDye, Sh.setWet]
      rw [if_neg (fun e => hne ⟨e.1, e.2.1⟩), if_neg (fun e => hne ⟨e.1, e.2.1⟩), if_neg (fun e => hne ⟨e.1, e.2.1⟩)]
      exact s3 i a b
end
end Go.Proofs.YtkanbbfddlhlcaaGreatDoor.V

/- SheetText and StackText: both codes and the laws: the walks. -/
namespace Go.Proofs.YtkanbbfddlhlcaaGreatDoor.V
theorem valid_of {S : Sh} (h : validB S = true) : Valid S := by simpa [validB] using h
section
variable (cx : Cx) (h : List (Nat × Seg)) (n : Nat)
end
end Go.Proofs.YtkanbbfddlhlcaaGreatDoor.V

/- Plain laws: what a sheet's text is taken apart into; a sheet whose cells are what words tell. -/
namespace Go.Proofs.YtkanbbfddlhlcaaGreatDoor.V
theorem joinTail_no {c : UInt8} {sep : List UInt8} (hs : c ∉ sep) : ∀ {L : List (List UInt8)}, (∀ a ∈ L, c ∉ a) → c ∉ Lib.joinTail sep L
  | [], _ => by simp [Lib.joinTail]
  | a :: L, h => by
    have e : Lib.joinTail sep (a :: L) = (sep ++ a) ++ Lib.joinTail sep L := by simp [Lib.joinTail]
    rw [e, List.mem_append, List.mem_append, not_or, not_or]
    exact ⟨⟨hs, h a (by simp)⟩, joinTail_no hs fun b hb => h b (List.mem_cons_of_mem _ hb)⟩
theorem join_no {c : UInt8} {sep : List UInt8} (hs : c ∉ sep) {L : List (List UInt8)} (h : ∀ a ∈ L, c ∉ a) : c ∉ Lib.join L sep := by
  cases L with
  | nil => simp [Lib.join_nil]
  | cons a L =>
    rw [Lib.join_cons, List.mem_append, not_or]
    exact ⟨h a (by simp), joinTail_no hs fun b hb => h b (List.mem_cons_of_mem _ hb)⟩
theorem spl_nlL {L : List (List UInt8)} (h : ∀ a ∈ L, (10 : UInt8) ∉ a) : spl 10 (nlL L) = L ++ [[]] := by
  rw [nlL_join]
  refine spl_of_join (by simp) fun x hx => ?_
  rcases List.mem_append.1 hx with hx | hx
  · exact h x hx
  · rw [List.mem_singleton.1 hx]; simp
theorem trim_nlL {L : List (List UInt8)} (h : ∀ a ∈ L, (10 : UInt8) ∉ a) (hne : L ≠ []) : spl 10 (Lib.trimSuffix (nlL L) [10]) = L := by
  have e : nlL L = Lib.join L [10] ++ [10] := by
    have : ∀ L : List (List UInt8), L ≠ [] → nlL L = Lib.join L [10] ++ [10] := fun L => by
      induction L with
      | nil => intro h; exact absurd rfl h
      | cons a L ih =>
        intro _
        cases L with
        | nil => simp [nlL, Lib.join_cons, Lib.joinTail]
        | cons b L =>
          have ih := ih (by simp)
          have e1 : nlL (a :: b :: L) = a ++ [10] ++ nlL (b :: L) := by simp [nlL]
          rw [e1, ih, Lib.join_cons, Lib.join_cons]; simp [Lib.joinTail]
    exact this _ hne
  have et : Lib.trimSuffix (nlL L) [10] = Lib.join L [10] := by
    unfold Lib.trimSuffix
    rw [if_pos (by rw [e]; unfold Lib.hasSuffix; simp [List.isSuffixOf]), e]
    simp
  rw [et]
  exact spl_of_join hne h
theorem linesK_nl (W : Nat) (sep : List UInt8) (wd : Nat → Nat → List UInt8) : ∀ H, linesK W sep wd H = nlL ((List.range H).map fun y => rowL W sep wd y)
  | 0 => rfl
  | H + 1 => by
    rw [linesK, linesK_nl W sep wd H, List.range_succ, List.map_append]
    simp [nlL]
/-- The words of a sheet's row, the rows of its text. -/
def wordsS (S : Sh) (y : Nat) : List (List UInt8) := (List.range S.wide.toNat).map fun x => wdN S x y
def rowsS (S : Sh) : List (List UInt8) := (List.range S.high.toNat).map fun y => Lib.join (wordsS S y) [32]
theorem textS_rows (S : Sh) : textS S = nlL (rowsS S) := by unfold textS; rw [linesK_nl]; rfl
theorem wdN_no {c : UInt8} (h : isDig c = false) (h1 : c ≠ 58) (h2 : c ≠ 44) (h3 : c ≠ 119) (S : Sh) (x y : Nat) : c ∉ wdN S x y := by
  unfold wdN
  split
  · unfold wdS
    split
    · simpa using h3
    · exact word_no h h1 h2 _ _ _ _
  · simp
theorem rowsS_no (S : Sh) : ∀ a ∈ rowsS S, (10 : UInt8) ∉ a := fun a ha => by
  obtain ⟨y, _, rfl⟩ := List.mem_map.1 ha
  refine join_no (by decide) fun b hb => ?_
  obtain ⟨x, _, rfl⟩ := List.mem_map.1 hb
  exact wdN_no (by decide) (by decide) (by decide) (by decide) S x y
theorem spl_words {S : Sh} (hW : 1 ≤ S.wide) (y : Nat) : spl 32 (Lib.join (wordsS S y) [32]) = wordsS S y := by
  refine spl_of_join (fun e => ?_) fun b hb => ?_
  · have := congrArg List.length e
    simp [wordsS] at this; omega
  · obtain ⟨x, _, rfl⟩ := List.mem_map.1 hb
    exact wdN_no (by decide) (by decide) (by decide) (by decide) S x y
theorem rowsS_len (S : Sh) : (rowsS S).length = S.high.toNat := by simp [rowsS]
theorem wordsS_len (S : Sh) (y : Nat) : (wordsS S y).length = S.wide.toNat := by simp [wordsS]
theorem rowsS_get (S : Sh) {y : Nat} (h : y < S.high.toNat) : (rowsS S).getD y [] = Lib.join (wordsS S y) [32] := by simp [rowsS, List.getD_eq_getElem?_getD, h]
theorem wordsS_get (S : Sh) (y : Nat) {x : Nat} (h : x < S.wide.toNat) : (wordsS S y).getD x [] = wdN S x y := by simp [wordsS, List.getD_eq_getElem?_getD, h]
theorem getE_D {α : Type} (L : List α) (d : α) {k : Nat} (h : k < L.length) : L[k] = L.getD k d := by rw [List.getD_eq_getElem?_getD, List.getElem?_eq_getElem h]; rfl
theorem getD_apS {α : Type} {L M : List α} {d : α} {k : Nat} (h : k < L.length) : (L ++ M).getD k d = L.getD k d := by
  rw [List.getD_eq_getElem?_getD, List.getD_eq_getElem?_getD, List.getElem?_append_left h]
/-- What the text of a sheet is taken apart into. -/
theorem of_textS {Q : Sh} (hV : Valid Q) {s : List UInt8} (hs : s = textS Q) :
    ∃ W H : Nat, (1 ≤ W ∧ W ≤ 8) ∧ (1 ≤ H ∧ H ≤ 8) ∧ Q.wide = W ∧ Q.high = H ∧ (spl 10 s).length = H + 1 ∧ (spl 10 s).getD H [] = [] ∧ (spl 10 (Lib.trimSuffix s [10])).length = H ∧
      ∀ y, y < H → (spl 10 (Lib.trimSuffix s [10])).getD y [] = (spl 10 s).getD y [] ∧ (spl 32 ((spl 10 s).getD y [])).length = W ∧ ∀ x, x < W → (spl 32 ((spl 10 s).getD y [])).getD x [] = wdN Q x y := by
  have h8 := hV.1
  unfold Small at h8
  subst hs
  have hne : rowsS Q ≠ [] := fun e => by have := rowsS_len Q; rw [e] at this; simp at this; omega
  rw [textS_rows, spl_nlL (rowsS_no Q), trim_nlL (rowsS_no Q) hne]
  have hrl := rowsS_len Q
  refine ⟨Q.wide.toNat, Q.high.toNat, by omega, by omega, by omega, by omega, by rw [List.length_append, hrl]; rfl, ?_, hrl, fun y hy => ?_⟩
  · rw [List.getD_eq_getElem?_getD, List.getElem?_append_right (by omega), hrl]; simp
  · rw [getD_apS (by omega), rowsS_get Q hy, spl_words h8.1]
    exact ⟨rfl, wordsS_len Q y, fun x hx => wordsS_get Q y hx⟩
/-- What a word tells of a cell. -/
def cvW (wd : Nat → List UInt8) (k : Nat) : Option (Int × Int × Int × Int) := match pwO (wd k) with
  | some (some (m, p, q, r)) => some (m, p, q, r)
  | _ => none
theorem wdN_pw {Q : Sh} (hV : Valid Q) {x y : Nat} (hx : x < 8) (hy : y < 8) : pwO (wdN Q x y) = some (if waxB Q x y then none else some ((Q.wet y x).toNat, (Q.dye y x 0).toNat, (Q.dye y x 1).toNat, (Q.dye y x 2).toNat)) := by
  obtain ⟨_, h2, h3, _⟩ := hV.2 y x (by omega) (by omega) (by omega) (by omega)
  have a0 := h3 0 (by omega) (by omega)
  have a1 := h3 1 (by omega) (by omega)
  have a2 := h3 2 (by omega) (by omega)
  unfold wdN
  rw [if_pos ⟨hx, hy⟩]
  unfold wdS
  split
  · unfold pwO; rw [if_pos rfl]
  · exact pwO_word (by omega)
section
variable {W H : Nat} {S T : Sh}
theorem readI_of {Q : Sh} (hV : Valid Q) (hR : ShR Q) (hW : Q.wide = W) (hH : Q.high = H) (hW8 : W ≤ 8) (hH8 : H ≤ 8) {wd : Nat → List UInt8} (hwd : ∀ k, k < H * W → wd k = wdN Q (k % W) (k / W)) : ReadI W H (H * W) (cvW wd) Q := by
  have hout : ∀ y x : Nat, y < 8 → x < 8 → ¬ (x < W ∧ y < H) → waxB Q x y = false ∧ Q.wet y x = 0 ∧ ∀ i, 0 ≤ i → i < 3 → Q.dye y x i = 0 := fun y x hy hx hn => by
    obtain ⟨h1, _, _, h4⟩ := hV.2 y x (by omega) (by omega) (by omega) (by omega)
    have hh : hasB Q x y = false := by
      rw [← Bool.not_eq_true]
      intro e
      simp only [hasB, Bool.and_eq_true, decide_eq_true_eq, hW, hH] at e
      omega
    rcases h4 with h4 | h4
    · rw [hh] at h4; exact absurd h4.1 (by simp)
    · refine ⟨?_, h4.1, fun i h0 h3 => ?_⟩
      · rw [← Bool.not_eq_true]
        intro e
        rw [h1 e] at hh; cases hh
      · rcases (by omega : i = 0 ∨ i = 1 ∨ i = 2) with rfl | rfl | rfl
        · exact h4.2.1
        · exact h4.2.2.1
        · exact h4.2.2.2
  refine ⟨hR, hW, hH, fun k hk => ?_, fun y x hy hx hr => ?_⟩
  · have hW0 : 0 < W := by
      rcases Nat.eq_zero_or_pos W with h0 | h0
      · rw [h0] at hk; omega
      · exact h0
    have hx := Nat.mod_lt k hW0
    have hy : k / W < H := (Nat.div_lt_iff_lt_mul hW0).2 hk
    have hp := wdN_pw hV (x := k % W) (y := k / W) (by omega) (by omega)
    unfold cvW
    rw [hwd k hk, hp]
    generalize k % W = x at *
    generalize k / W = y at *
    obtain ⟨h1, h2, h3, h4⟩ := hV.2 y x (by omega) (by omega) (by omega) (by omega)
    cases hw : waxB Q x y
    · rw [if_neg (by simp)]
      have a0 := h3 0 (by omega) (by omega)
      have a1 := h3 1 (by omega) (by omega)
      have a2 := h3 2 (by omega) (by omega)
      exact ⟨hw, (Int.toNat_of_nonneg h2.1).symm, (Int.toNat_of_nonneg a0.1).symm, (Int.toNat_of_nonneg a1.1).symm, (Int.toNat_of_nonneg a2.1).symm⟩
    · rw [if_pos rfl]
      rcases h4 with h4 | h4
      · rw [hw] at h4; exact absurd h4.2 (by simp)
      · refine ⟨hw, h4.1, fun i h0 h3 => ?_⟩
        rcases (by omega : i = 0 ∨ i = 1 ∨ i = 2) with rfl | rfl | rfl
        · exact h4.2.1
        · exact h4.2.2.1
        · exact h4.2.2.2
  · refine hout y x hy hx fun hin => ?_
    rcases hr with hr | hr
    · exact hr hin
    · have := Nat.mul_le_mul_right W (show y + 1 ≤ H by omega)
      rw [Nat.add_mul, Nat.one_mul] at this
      omega
theorem kOf {x y : Nat} (hx : x < W) (hy : y < H) : y * W + x < H * W ∧ (y * W + x) % W = x ∧ (y * W + x) / W = y := by
  have := Nat.mul_le_mul_right W (show y + 1 ≤ H by omega)
  rw [Nat.add_mul, Nat.one_mul] at this
  exact ⟨by omega, by rw [Nat.mul_comm, Nat.mul_add_mod, Nat.mod_eq_of_lt hx], by rw [Nat.mul_comm, Nat.mul_add_div (by omega), Nat.div_eq_of_lt hx, Nat.add_zero]⟩
theorem ReadI.cell {cv : Nat → Option (Int × Int × Int × Int)} (h : ReadI W H (H * W) cv S) {x y : Nat} (hx8 : x < 8) (hy8 : y < 8) : (x < W ∧ y < H ∧ CellIs S x y (cv (y * W + x))) ∨ (¬ (x < W ∧ y < H) ∧ waxB S x y = false ∧ S.wet y x = 0 ∧ ∀ i, 0 ≤ i → i < 3 → S.dye y x i = 0) := by
  by_cases hin : x < W ∧ y < H
  · obtain ⟨h1, h2, h3⟩ := kOf hin.1 hin.2
    have := h.done _ h1
    rw [h2, h3] at this
    exact .inl ⟨hin.1, hin.2, this⟩
  · exact .inr ⟨hin, h.rest y x hy8 hx8 (.inl hin)⟩
theorem ReadI.back {wd : Nat → List UInt8} (h : ReadI W H (H * W) (cvW wd) S) (hW : 1 ≤ W ∧ W ≤ 8) (hH : 1 ≤ H ∧ H ≤ 8) (ok : ∀ k, k < H * W → pwO (wd k) ≠ none) : Valid S ∧ ∀ x y, x < W → y < H → wdN S x y = wd (y * W + x) := by
  have hw := h.wide
  have hh := h.high
  have key : ∀ x y : Nat, x < W → y < H → (pwO (wd (y * W + x)) = some none ∧ wd (y * W + x) = [119] ∧ cvW wd (y * W + x) = none) ∨ ∃ m p q r : Nat, cvW wd (y * W + x) = some ((m : Int), (p : Int), (q : Int), (r : Int)) ∧ wd (y * W + x) = wordV m p q r ∧ m ≤ 200 ∧ p ≤ 1000 ∧ q ≤ 1000 ∧ r ≤ 1000 := fun x y hx hy => by
    have hk := (kOf hx hy).1
    have hok := ok _ hk
    cases hp : pwO (wd (y * W + x)) with
    | none => exact absurd hp hok
    | some v =>
      rcases word_pwO hp with ⟨e1, rfl⟩ | ⟨m, p, q, r, rfl, e2, e3⟩
      · exact .inl ⟨rfl, e1, by unfold cvW; rw [hp]⟩
      · exact .inr ⟨m, p, q, r, by unfold cvW; rw [hp], e2, e3⟩
  refine ⟨⟨⟨by omega, by omega, by omega, by omega⟩, fun y x hy0 hy8 hx0 hx8 => ?_⟩, fun x y hx hy => ?_⟩
  · obtain ⟨y, rfl⟩ := Int.eq_ofNat_of_zero_le hy0
    obtain ⟨x, rfl⟩ := Int.eq_ofNat_of_zero_le hx0
    have hhas : x < W → y < H → hasB S x y = true := fun a b => by simp only [hasB, Bool.and_eq_true, decide_eq_true_eq, hw, hh]; omega
    rcases h.cell (x := x) (y := y) (by omega) (by omega) with ⟨hx, hy, hc⟩ | ⟨hn, r1, r2, r3⟩
    · rcases key x y hx hy with ⟨_, _, e⟩ | ⟨m, p, q, r, e, _, b1, b2, b3, b4⟩
      · rw [e] at hc
        obtain ⟨c1, c2, c3⟩ := hc
        refine ⟨fun _ => hhas hx hy, by rw [c2]; omega, fun i h0 h3 => by rw [c3 i h0 h3]; omega, .inr ⟨c2, c3 0 (by omega) (by omega), c3 1 (by omega) (by omega), c3 2 (by omega) (by omega)⟩⟩
      · rw [e] at hc
        obtain ⟨c1, c2, c3, c4, c5⟩ := hc
        refine ⟨fun _ => hhas hx hy, by rw [c2]; omega, fun i h0 h3 => ?_, .inl ⟨hhas hx hy, c1⟩⟩
        rcases (by omega : i = 0 ∨ i = 1 ∨ i = 2) with rfl | rfl | rfl
        · rw [c3]; omega
        · rw [c4]; omega
        · rw [c5]; omega
    · refine ⟨fun e => (by rw [r1] at e; cases e), by rw [r2]; omega, fun i h0 h3 => by rw [r3 i h0 h3]; omega, .inr ⟨r2, r3 0 (by omega) (by omega), r3 1 (by omega) (by omega), r3 2 (by omega) (by omega)⟩⟩
  · have hcell := h.cell (x := x) (y := y) (by omega) (by omega)
    rcases hcell with ⟨_, _, hc⟩ | ⟨hn, _⟩
    · unfold wdN
      rw [if_pos ⟨by omega, by omega⟩]
      unfold wdS
      rcases key x y hx hy with ⟨_, e1, e⟩ | ⟨m, p, q, r, e, e2, _⟩
      · rw [e] at hc
        rw [hc.1, if_pos rfl, e1]
      · rw [e] at hc
        obtain ⟨c1, c2, c3, c4, c5⟩ := hc
        rw [c1, if_neg (by simp), c2, c3, c4, c5, e2]
        rfl
    · exact absurd ⟨hx, hy⟩ hn
/-- The text of a sheet that was read from pieces. -/
theorem textS_of {s : List UInt8} (hW : 1 ≤ W) (hSW : S.wide = W) (hSH : S.high = H) (hL : (spl 10 s).length = H + 1) (h0 : (spl 10 s).getD H [] = []) (hr : ∀ y, y < H → (spl 32 ((spl 10 s).getD y [])).length = W ∧ ∀ x, x < W → (spl 32 ((spl 10 s).getD y [])).getD x [] = wdN S x y) : textS S = s := by
  have hj := spl_join 10 s
  generalize spl 10 s = L at *
  have hsplit : L = L.take H ++ [[]] := by
    have e := (List.take_append_drop H L).symm
    have e2 : L.drop H = [[]] := by
      rw [List.drop_eq_getElem_cons (by omega), List.drop_eq_nil_of_le (by omega)]
      rw [List.getD_eq_getElem?_getD, List.getElem?_eq_getElem (by omega)] at h0
      simp only [Option.getD_some] at h0
      rw [h0]
    rw [e2] at e
    exact e
  have hrows : rowsS S = L.take H := by
    apply List.ext_getElem
    · rw [rowsS_len, List.length_take, hSH]; omega
    · intro y h1 h2
      have hy : y < H := by rw [List.length_take] at h2; omega
      have hyL : y < L.length := by omega
      have e1 : (rowsS S)[y] = (rowsS S).getD y [] := by rw [List.getD_eq_getElem?_getD, List.getElem?_eq_getElem h1]; rfl
      have e3 : L.getD y [] = L[y] := by rw [List.getD_eq_getElem?_getD, List.getElem?_eq_getElem hyL]; rfl
      rw [e1, rowsS_get _ (by omega), List.getElem_take, ← e3, ← spl_join 32 (L.getD y [])]
      obtain ⟨r1, r2⟩ := hr y hy
      congr 1
      apply List.ext_getElem
      · rw [wordsS_len, r1]; omega
      · intro x h3 h4
        have hx : x < W := by rw [r1] at h4; exact h4
        have a1 : (wordsS S y)[x] = (wordsS S y).getD x [] := by rw [List.getD_eq_getElem?_getD, List.getElem?_eq_getElem h3]; rfl
        have a2 : (spl 32 (L.getD y []))[x] = (spl 32 (L.getD y [])).getD x [] := getE_D (spl 32 (L.getD y [])) [] h4
        rw [a1, a2, wordsS_get _ _ (by omega), r2 x hx]
  rw [textS_rows, hrows, nlL_join, ← hsplit, hj]
theorem bits_eq {a b : Nat} (ha : a < 256) (hb : b < 256) (h : ∀ k, k < 8 → a.testBit k = b.testBit k) : a = b := by
  apply Nat.eq_of_testBit_eq
  intro k
  by_cases hk : k < 8
  · exact h k hk
  · have h2 : (256 : Nat) ≤ 2 ^ k := by
      have := Nat.pow_le_pow_right (n := 2) (by omega) (show 8 ≤ k by omega)
      simpa using this
    rw [Nat.testBit_lt_two_pow (by omega), Nat.testBit_lt_two_pow (by omega)]
theorem ReadI.same {cv : Nat → Option (Int × Int × Int × Int)} (h : ReadI W H (H * W) cv S) (k : ReadI W H (H * W) cv T) : ∀ j, j < 266 → shC S j = shC T j := by
  have key : ∀ x y : Nat, x < 8 → y < 8 → waxB S x y = waxB T x y ∧ S.wet y x = T.wet y x ∧ ∀ i, 0 ≤ i → i < 3 → S.dye y x i = T.dye y x i := fun x y hx hy => by
    rcases h.cell hx hy with ⟨a1, a2, a3⟩ | ⟨a1, a2, a3, a4⟩ <;> rcases k.cell hx hy with ⟨b1, b2, b3⟩ | ⟨b1, b2, b3, b4⟩
    · cases hc : cv (y * W + x) with
      | none =>
        rw [hc] at a3 b3
        exact ⟨a3.1.trans b3.1.symm, a3.2.1.trans b3.2.1.symm, fun i h0 h3 => (a3.2.2 i h0 h3).trans (b3.2.2 i h0 h3).symm⟩
      | some v =>
        obtain ⟨m, p, q, r⟩ := v
        rw [hc] at a3 b3
        obtain ⟨c1, c2, c3, c4, c5⟩ := a3
        obtain ⟨d1, d2, d3, d4, d5⟩ := b3
        refine ⟨c1.trans d1.symm, c2.trans d2.symm, fun i h0 h3 => ?_⟩
        rcases (by omega : i = 0 ∨ i = 1 ∨ i = 2) with rfl | rfl | rfl
        · exact c3.trans d3.symm
        · exact c4.trans d4.symm
        · exact c5.trans d5.symm
    · exact absurd ⟨a1, a2⟩ b1
    · exact absurd ⟨b1, b2⟩ a1
    · exact ⟨a2.trans b2.symm, a3.trans b3.symm, fun i h0 h3 => (a4 i h0 h3).trans (b4 i h0 h3).symm⟩
  intro j hj
  unfold shC
  split
  · split
    · rw [h.wide, k.wide]
    · rw [h.high, k.high]
  · split
    · split
      · rw [(key ((j - 2) % 8) ((j - 2) / 8) (by omega) (by omega)).2.1]
      · rw [(key ((j - 66) % 24 / 3) ((j - 66) / 24) (by omega) (by omega)).2.2 _ (by omega) (by omega)]
    · have hy : j - 258 < 8 := by omega
      generalize j - 258 = y at *
      congr 1
      have ra := h.R.wax (y : Int)
      have rb := k.R.wax (y : Int)
      obtain ⟨a, ha⟩ := Int.eq_ofNat_of_zero_le ra.1
      obtain ⟨b, hb⟩ := Int.eq_ofNat_of_zero_le rb.1
      have hab : a = b := bits_eq (by omega) (by omega) fun x hx => by
        have := (key x y hx hy).1
        unfold waxB at this
        rw [ha, hb, wax_bit (by omega) hx, wax_bit (by omega) hx] at this
        exact this
      rw [ha, hb, hab]
end
/-- What reading a sheet's text gives: the sheet of that text; else none. -/
def RsIs (s : List UInt8) (S : Sh) (c : Int) : Prop := (c = 0 ∧ Valid S ∧ ShR S ∧ s = textS S) ∨ (c = 5 ∧ S = sh0 ∧ ¬ ∃ Q, Valid Q ∧ ShR Q ∧ s = textS Q)
/-- The word of a cell, of a text. -/
def wdT (s : List UInt8) (W k : Nat) : List UInt8 := (spl 32 ((spl 10 s).getD (k / W) [])).getD (k % W) []
theorem valid_read {Q : Sh} (hV : Valid Q) (hR : ShR Q) {s : List UInt8} (hs : s = textS Q) : ∃ W H : Nat, (1 ≤ W ∧ W ≤ 8) ∧ (1 ≤ H ∧ H ≤ 8) ∧ Q.wide = W ∧ Q.high = H ∧ (spl 10 s).length = H + 1 ∧ (spl 10 s).getD H [] = [] ∧ (spl 10 (Lib.trimSuffix s [10])).length = H ∧
      (∀ y, y < H → (spl 10 (Lib.trimSuffix s [10])).getD y [] = (spl 10 s).getD y [] ∧ (spl 32 ((spl 10 s).getD y [])).length = W) ∧ (∀ k, k < H * W → pwO (wdT s W k) ≠ none) ∧ ReadI W H (H * W) (cvW (wdT s W)) Q := by
  obtain ⟨W, H, h1, h2, h3, h4, h5, h6, h7, h8⟩ := of_textS hV hs
  have hwd : ∀ k, k < H * W → wdT s W k = wdN Q (k % W) (k / W) := fun k hk => by
    have hx := Nat.mod_lt k (show 0 < W by omega)
    have hy : k / W < H := (Nat.div_lt_iff_lt_mul (show 0 < W by omega)).2 hk
    exact (h8 _ hy).2.2 _ hx
  refine ⟨W, H, h1, h2, h3, h4, h5, h6, h7, fun y hy => ⟨(h8 y hy).1, (h8 y hy).2.1⟩, fun k hk => ?_, readI_of hV hR h3 h4 h1.2 h2.2 hwd⟩
  have hx := Nat.mod_lt k (show 0 < W by omega)
  have hy : k / W < H := (Nat.div_lt_iff_lt_mul (show 0 < W by omega)).2 hk
  rw [hwd k hk, wdN_pw hV (by omega) (by omega)]
  simp
/-- Two valid sheets of one text. -/
theorem rowsS_inj {P Q : Sh} {s : List UInt8} (hP : Valid P) (hPR : ShR P) (hQ : Valid Q) (hQR : ShR Q) (e1 : s = textS P) (e2 : s = textS Q) : ∀ j, j < 266 → shC P j = shC Q j := by
  obtain ⟨W, H, a1, a2, a3, a4, a5, a6, a7, a8, a9, a10⟩ := valid_read hP hPR e1
  obtain ⟨W', H', b1, b2, b3, b4, b5, b6, b7, b8, b9, b10⟩ := valid_read hQ hQR e2
  have eH : H = H' := by omega
  subst eH
  have eW : W = W' := by
    have c1 := (a8 0 (by omega)).2
    have c2 := (b8 0 (by omega)).2
    omega
  subst eW
  exact a10.same b10
theorem RsIs.two {s : List UInt8} {P Q : Sh} {c d : Int} (h : RsIs s P c) (k : RsIs s Q d) : c = d ∧ ∀ j, j < 266 → shC P j = shC Q j := by
  rcases h with ⟨rfl, h1, h2, h3⟩ | ⟨rfl, rfl, h3⟩ <;> rcases k with ⟨rfl, k1, k2, k3⟩ | ⟨rfl, rfl, k3⟩
  · exact ⟨rfl, rowsS_inj h1 h2 k1 k2 h3 k3⟩
  · exact absurd ⟨P, h1, h2, h3⟩ k3
  · exact absurd ⟨Q, k1, k2, k3⟩ h3
  · exact ⟨rfl, fun _ _ => rfl⟩
end Go.Proofs.YtkanbbfddlhlcaaGreatDoor.V

/- Plain laws: how the program reads a sheet's cells. -/
namespace Go.Proofs.YtkanbbfddlhlcaaGreatDoor.V
theorem cut_at {c : UInt8} {a b : List UInt8} (h : c ∉ a) : Lib.cut (a ++ c :: b) [c] = (a, b, true) := by
  have hi : Lib.index (a ++ c :: b) [c] = a.length := by
    rw [Lib.index_one]
    induction a with
    | nil => simp [Lib.indexByte]
    | cons x a ih =>
      rw [List.mem_cons, not_or] at h
      rw [List.cons_append, Lib.indexByte, if_neg (by simpa using Ne.symm h.1), ih h.2, if_neg (by simp)]
      simp
  unfold Lib.cut
  rw [hi, if_pos (by omega)]
  simp
theorem cut_le (w : List UInt8) (c : List UInt8) : (Lib.cut w c).1.length ≤ w.length ∧ (Lib.cut w c).2.1.length ≤ w.length := by
  unfold Lib.cut
  split
  · refine ⟨?_, ?_⟩
    · simp only [List.length_take]; omega
    · simp only [List.length_drop]; omega
  · exact ⟨Nat.le_refl _, Nat.zero_le _⟩
/-- The small number of a text. -/
def rs (s : List UInt8) : Int := match Lib.parseIntB 16 s with
  | .ok v => v
  | .range => Lib.intSat 16 s
  | _ => 0
theorem rs_in (s : List UInt8) : -32768 ≤ rs s ∧ rs s < 32768 := by
  unfold rs
  split
  · rename_i v hv
    unfold Lib.parseIntB at hv
    split at hv
    · cases hv
    · simp only at hv
      split at hv
      · cases hv
      · cases hv
      · split at hv
        · cases hv
        · split at hv
          · cases hv
          · rename_i h1 h2
            cases hv
            split <;> rename_i h3 <;> simp only [h3, true_and, not_true_eq_false, not_false_eq_true, false_and] at h1 h2 <;> simp at h1 h2 <;> omega
  · unfold Lib.intSat
    split <;> simp
  · omega
theorem pUM_digits (M : Nat) (hM : M < 1000000) : ∀ (l : List UInt8) (acc : Nat), l.all isDig = true → l.foldl (fun n b => 10 * n + (b.toNat - 48)) acc ≤ M → Lib.parseUintM M acc l = .ok (l.foldl (fun n b => 10 * n + (b.toNat - 48)) acc)
  | [], _, _, _ => rfl
  | b :: l, acc, hd, hle => by
    rw [List.all_cons, Bool.and_eq_true] at hd
    have hb : 48 ≤ b.toNat ∧ b.toNat ≤ 57 := by simpa [isDig] using hd.1
    rw [List.foldl_cons] at hle ⊢
    have hmono : ∀ (l : List UInt8) (a : Nat), a ≤ l.foldl (fun n b => 10 * n + (b.toNat - 48)) a := fun l => by
      induction l with
      | nil => intro a; exact Nat.le_refl _
      | cons c l ih => intro a; rw [List.foldl_cons]; exact Nat.le_trans (by omega) (ih _)
    have h1 := hmono l (10 * acc + (b.toNat - 48))
    rw [Lib.parseUintM, if_pos hb, if_neg (by omega), if_neg (by omega), show acc * 10 + (b.toNat - 48) = 10 * acc + (b.toNat - 48) by omega]
    exact pUM_digits M hM l _ hd.2 hle
theorem rs_dec {m : Nat} (h : m ≤ 1000) : rs (decL m) = m := by
  have hd := dec_dig m
  have hv := dec_val m
  have hne := dec_ne m
  unfold rs
  cases e : decL m with
  | nil => exact absurd e hne
  | cons c r =>
    rw [e] at hd hv
    have hc : 48 ≤ c.toNat ∧ c.toNat ≤ 57 := by simpa [isDig] using hd c (by simp)
    have hp : Lib.parseUintB 16 (c :: r) = .ok m := by
      unfold Lib.parseUintB
      rw [if_neg (by simp)]
      have hle : (c :: r).foldl (fun n b => 10 * n + (b.toNat - 48)) 0 ≤ 2 ^ 16 - 1 := by
        have : (c :: r).foldl (fun n b => 10 * n + (b.toNat - 48)) 0 = m := hv
        rw [this]; omega
      rw [pUM_digits (2 ^ 16 - 1) (by omega) (c :: r) 0 (by rw [List.all_eq_true]; exact hd) hle]
      exact congrArg _ hv
    have h2 : Lib.parseIntB 16 (c :: r) = .ok (m : Int) := by
      unfold Lib.parseIntB
      simp only
      rw [if_neg (show ¬ (c.toNat = 43 ∨ c.toNat = 45) by omega), hp]
      simp only
      rw [if_neg (by omega), if_neg (by omega), if_neg (by omega)]
    rw [h2]
/-- The first q dyes of a cell are set. -/
def putD (S : Sh) (y x : Int) (L : List (List UInt8)) : Nat → Sh
  | 0 => S
  | q + 1 => if q < 3 then (putD S y x L q).setDye y x q (rs (L.getD q [])) else putD S y x L q
def stepW (S : Sh) (y x : Int) (w : List UInt8) : Sh :=
  if w = [119] then S.setWax y (bitsI .or .u8 (S.wax y) (shlI .u8 1 x))
  else putD (S.setWet y x (rs (Lib.cut w [58]).1)) y x (spl 44 (Lib.cut w [58]).2.1) (spl 44 (Lib.cut w [58]).2.1).length
/-- The first k cells are read. -/
def rdN (W H : Nat) (wd : Nat → List UInt8) : Nat → Sh
  | 0 => ⟨W, H, fun _ _ => 0, fun _ _ _ => 0, fun _ => 0⟩
  | k + 1 => stepW (rdN W H wd k) ((k / W : Nat) : Int) ((k % W : Nat) : Int) (wd k)
theorem putD_R {S : Sh} (hR : ShR S) (y x : Int) (L : List (List UInt8)) : ∀ q, ShR (putD S y x L q) ∧ (putD S y x L q).wide = S.wide ∧ (putD S y x L q).high = S.high
  | 0 => ⟨hR, rfl, rfl⟩
  | q + 1 => by
    obtain ⟨h1, h2, h3⟩ := putD_R hR y x L q
    rw [putD]
    split
    · exact ⟨h1.setDye (rs_in _), h2, h3⟩
    · exact ⟨h1, h2, h3⟩
theorem stepW_R {S : Sh} (hR : ShR S) (y : Int) {x : Int} (hx : 0 ≤ x ∧ x < 8) (w : List UInt8) : ShR (stepW S y x w) ∧ (stepW S y x w).wide = S.wide ∧ (stepW S y x w).high = S.high := by
  unfold stepW
  split
  · exact ⟨hR.setWax (or8 (hR.wax _) hx), rfl, rfl⟩
  · obtain ⟨h1, h2, h3⟩ := putD_R (hR.setWet (y := y) (x := x) (rs_in (Lib.cut w [58]).1)) y x (spl 44 (Lib.cut w [58]).2.1) (spl 44 (Lib.cut w [58]).2.1).length
    exact ⟨h1, h2, h3⟩
theorem rdN_R {W H : Nat} (hW : 1 ≤ W ∧ W ≤ 8) (hH : H ≤ 8) (wd : Nat → List UInt8) : ∀ k, ShR (rdN W H wd k) ∧ (rdN W H wd k).wide = W ∧ (rdN W H wd k).high = H
  | 0 => ⟨(ReadI.zero (fun _ => none) hW.2 hH).R, rfl, rfl⟩
  | k + 1 => by
    obtain ⟨h1, h2, h3⟩ := rdN_R hW hH wd k
    have hx := Nat.mod_lt k (show 0 < W by omega)
    have hx8 : (0 : Int) ≤ ((k % W : Nat) : Int) ∧ ((k % W : Nat) : Int) < 8 := by
      generalize k % W = a at *
      omega
    obtain ⟨g1, g2, g3⟩ := stepW_R h1 ((k / W : Nat) : Int) hx8 (wd k)
    exact ⟨g1, g2.trans h2, g3.trans h3⟩
theorem rdN_I {W H : Nat} (hW : 1 ≤ W ∧ W ≤ 8) (hH : H ≤ 8) {wd : Nat → List UInt8} (ok : ∀ k, k < H * W → pwO (wd k) ≠ none) : ∀ k, k ≤ H * W → ReadI W H k (cvW wd) (rdN W H wd k)
  | 0, _ => ReadI.zero _ hW.2 hH
  | k + 1, hk => by
    have ih := rdN_I hW hH ok k (by omega)
    have hok := ok k (by omega)
    rw [rdN]
    unfold stepW
    cases hp : pwO (wd k) with
    | none => exact absurd hp hok
    | some v =>
      rcases word_pwO hp with ⟨e1, rfl⟩ | ⟨m, p, q, r, rfl, e2, e3⟩
      · rw [if_pos e1]
        exact ih.setWax hW hH (by omega) (by unfold cvW; rw [hp])
      · have hne : wd k ≠ [119] := by rw [e2]; exact wordV_ne m p q r
        obtain ⟨w1, w2⟩ := word_spl m p q r
        have hcut : Lib.cut (wd k) [58] = (decL m, decL p ++ 44 :: (decL q ++ 44 :: decL r), true) := by
          rw [e2]
          have e : wordV m p q r = decL m ++ 58 :: (decL p ++ 44 :: (decL q ++ 44 :: decL r)) := by simp [wordV]
          rw [e]
          exact cut_at (dec_not (by decide) m)
        rw [if_neg hne, hcut]
        simp only
        rw [w2]
        have r0 := rs_dec (m := m) (by omega)
        have r1 := rs_dec (m := p) (by omega)
        have r2 := rs_dec (m := q) (by omega)
        have r3 := rs_dec (m := r) (by omega)
        rw [r0]
        show ReadI W H (k + 1) (cvW wd) (((((rdN W H wd k).setWet _ _ _).setDye _ _ ((0 : Nat) : Int) (rs (decL p))).setDye _ _ ((1 : Nat) : Int) (rs (decL q))).setDye _ _ ((2 : Nat) : Int) (rs (decL r)))
        rw [r1, r2, r3]
        exact ih.setVal hW hH (by omega) (by unfold cvW; rw [hp]) (by omega) (by omega) (by omega) (by omega)
end Go.Proofs.YtkanbbfddlhlcaaGreatDoor.V

/- Packed pictures: the program's code: the walks. -/
namespace Go.Proofs.YtkanbbfddlhlcaaGreatDoor.V
/-- Some number lies in the library's variable MaxLen, as long as the frame lasts. -/
def MaxOk (cx : Cx) : Prop := ∃ m : Int, ∀ w, Keeps cx.W cx.w0 w → w.cell? ⟨0, 0, none⟩ = some (.int .i64 m)
theorem MaxOk.sub {cx : Cx} (hM : MaxOk cx) (nt n0 : Nat) : MaxOk ⟨cx.w0, cx.W, nt, n0⟩ := hM
theorem bt_S8 (L : List UInt8) (k : Nat) (h : k < L.length) : bt (S8 L) k = ((L.getD k 0).toNat : Int) := by
  unfold bt S8
  rw [Int.toNat_natCast, List.getD_eq_getElem?_getD]
  rw [List.getElem?_eq_getElem h]
  have : (⟨L.toArray⟩ : ByteArray)[k]? = some L[k] := by
    rw [getElem?_pos _ _ (by simpa [ByteArray.size] using h)]
    rfl
  rw [this]
  try rfl
section
variable (cx : Cx) (h : List (Nat × Seg)) (n : Nat)
end
end Go.Proofs.YtkanbbfddlhlcaaGreatDoor.V

/- Reading texts: contracts of the library (out of the kit's shelf), bytes of a string, the reference's split. -/
namespace Go.Proofs.YtkanbbfddlhlcaaGreatDoor.V
@[go_sem] theorem cvT_sbytes (P : Program) (ti : Nat → TI) (cx : Cx) (Q : List (Nat × SV) → List (Nat × Seg) → Nat → Prop) (k : List It) (l : List (Nat × SV)) (h : List (Nat × Seg)) (n : Nat) (q : Bool) (all rest : List Oper) (d : Option Nat) (e : Nat) (x : PV) (o : Oper) :
    cvT P ti cx Q k l h n q all rest d .str (.sl e) x o = semT P ti cx Q k l h n q all rest o := rfl
section
variable {P : Program} {ti : Nat → TI} {cx : Cx} {l : List (Nat × SV)} {h : List (Nat × Seg)} {n : Nat} {K : List (Nat × SV) → List (Nat × Seg) → Nat → Prop}
end
section
variable (cx : Cx) (h : List (Nat × Seg)) (n : Nat)
theorem trim_Q (s p : List UInt8) (hs : s.length ≤ 9223372036854775807) : CallQ Tryz.prog cx 41 [.str (S8 s), .str (S8 p)] h n (.str (S8 (Lib.trimSuffix s p))) := by
  refine ⟨Tryz.call41, by simp only [go_sem, and_self], trivial, fun ρ w sh _ => ?_⟩
  have hsz : (S8 s).size = s.length := S8_size s
  refine (Tryz.strings_TrimSuffix (S8 s) (S8 p) w (by omega)).mono fun e w' he => ?_
  obtain ⟨rfl, rfl⟩ := he
  refine ⟨?_, sh⟩
  rw [S8_list, S8_list]; rfl
theorem split_E (hM : MaxOk cx) (s : List UInt8) (c : UInt8) (hs : s.length ≤ 4294967280) (K : HK)
    (hK : K (.sl n 0 (spl c s).length (spl c s).length) ((n, ⟨(spl c s).length, strsC (spl c s), true, some (9, (spl c s).length)⟩) :: h) (n + 1)) : CallE Tryz.prog cx 12 [.str (S8 s), .str (S8 [c])] h n K := by
  obtain ⟨m, hm⟩ := hM
  refine ⟨Tryz.call12, by simp only [go_sem, and_self], fun ρ w sh _ => ?_⟩
  have hsz : (S8 s).size = s.length := S8_size s
  refine (Tryz.strings_Split (S8 s) (S8 [c]) m w (by omega) (hm w sh.keeps) (Nat.le_refl 1)).mono fun e w' he => ?_
  obtain ⟨rfl, rfl⟩ := he
  have hlen : Lib.countB (S8 s) (S8 [c]) + 1 = (spl c s).length := by
    have : Lib.countB (S8 s) (S8 [c]) = Lib.count (S8 s).data.toList [c] := rfl
    rw [this, S8_list, Lib.count_one, spl_len]
  have hL : (Lib.splitB (S8 [c]) 0 (Lib.countB (S8 s) (S8 [c])) (S8 s)).map (fun x : ByteArray => x.data.toList) = spl c s := by
    have := splitB_spl c (Lib.countB (S8 s) (S8 [c])) (S8 s) rfl
    rw [S8_list] at this
    exact this
  generalize hLL : Lib.splitB (S8 [c]) 0 (Lib.countB (S8 s) (S8 [c])) (S8 s) = LL at *
  rw [hlen]
  have hLl : LL.length = (spl c s).length := by rw [← hL, List.length_map]
  have hheap : (w.alloc (.cells (LL.map Value.string).toArray 9)).heap[w.heap.size]? = some (.cells (LL.map Value.string).toArray 9 (0, 0)) := heap_alloc_new w _
  have hg : w.grownBy (w.alloc (.cells (LL.map Value.string).toArray 9)) none := ⟨rfl, rfl, rfl, by simp, fun k hk _ => heap_alloc_old w _ hk⟩
  obtain ⟨ρ', r1, r2, r3⟩ := sh.own_step (h2 := h) hg (fun _ _ h => h) (fun z q hq => by simp) (fun b hb => by cases hb) hheap
    (fun z q hq => Nat.ne_of_lt (sh.seg z q hq).blk) sh.keeps.size (spl c s).length (strsC (spl c s)) (fun k hk => by
      have hk' : k < LL.length := by omega
      simp only [List.getElem?_toArray, List.getElem?_map, List.getElem?_eq_getElem hk', Option.map_some]
      have e : (spl c s).getD k [] = (LL[k]).data.toList := by rw [← hL, List.getD_eq_getElem?_getD, List.getElem?_map, List.getElem?_eq_getElem hk']; rfl
      show some (Value.string LL[k]) = some (Value.string (S8 ((spl c s).getD k [])))
      rw [e]; rfl) (fun _ _ => trivial)
  have hcs : (LL.map Value.string).toArray.size = (spl c s).length := by simp [hLl]
  rw [hcs] at r3
  refine ⟨ρ', .sl n 0 (spl c s).length (spl c s).length, _, n + 1, fun i hi => r1 i (by omega), Nat.le_succ n, ?_, Nat.lt_succ_self n, r3, hK⟩
  simp [den, r2]
end
end Go.Proofs.YtkanbbfddlhlcaaGreatDoor.V

/- Reading texts: the reference's split: the walk. -/
namespace Go.Proofs.YtkanbbfddlhlcaaGreatDoor.V
theorem ext_S8b (L : List UInt8) (a b : Nat) : (S8 L).extract a b = S8 ((L.drop a).take (b - a)) := by
  apply ByteArray.ext
  apply Array.toList_inj.1
  rw [ByteArray.data_extract, Array.toList_extract]
  show L.extract a b = _
  rw [List.extract_eq_drop_take]; rfl
theorem spR_yes {c : UInt8} {s : List UInt8} {i : Nat} (h : s.getD i 0 = c) : spR c s (i + 1) = ((spR c s i).1 ++ [(s.drop (spR c s i).2).take (i - (spR c s i).2)], i + 1) := by rw [spR, if_pos h]
theorem spR_no {c : UInt8} {s : List UInt8} {i : Nat} (h : ¬ s.getD i 0 = c) : spR c s (i + 1) = spR c s i := by rw [spR, if_neg h]
section
variable (cx : Cx) (h : List (Nat × Seg)) (n : Nat)
set_option maxRecDepth 20000 in
theorem split2_E (s : List UInt8) (c : UInt8) (hs9 : s.length ≤ 2000000) (K : HK) (hK : ∀ V h' n', n ≤ n' → HExt n h h' → HOk n' h' → StrO h' n n' V (spl c s) → K V h' n') :
    CallE Tryz.prog cx 9 [.str (S8 s), .int .u8 (c.toNat : Int)] h n K := by
  have hsz : (S8 s).size = s.length := S8_size s
  have hend := spR_end c s
  refine callE_of_T (P := Tryz.prog) hti (nt := 35) (rs := [.tmp 4]) rfl rfl Tryz.call9 Tryz.func9 rfl _ (by simp only [go_sem, and_self]) (Nat.le_of_ble_eq_true rfl) _ fun hok => ?_
  simp only [go_sem, Nat.reduceLT]
  generalize zrow _ = Z
  have ok1 : HOk (n + 1) ((n, ⟨0, Z, true, some (9, 0)⟩) :: h) := fun i t hi => by
    simp only [hget] at hi
    split at hi
    · rename_i e; cases hi
      exact ⟨by omega, fun k hk => absurd hk (Nat.not_lt_zero k)⟩
    · exact ⟨by have := (hok i t hi).1; omega, fun k hk => SV.lt_mono (by omega) _ ((hok i t hi).2 k hk)⟩
  have X1 : HExt n h ((n, ⟨0, Z, true, some (9, 0)⟩) :: h) := fun z hz t ht => by simp only [hget]; rw [if_neg (by omega)]; exact ht
  have S1 : StrO ((n, ⟨0, Z, true, some (9, 0)⟩) :: h) n (n + 1) (.sl n 0 0 0) [] := ⟨n, 0, _, rfl, Nat.le_refl _, by omega, hget_hit _ _ _, rfl, rfl, rfl, Nat.le_refl _, Nat.zero_le _, fun k hk => absurd hk (Nat.not_lt_zero k)⟩
  generalize ((n, (⟨0, Z, true, some (9, 0)⟩ : Seg)) :: h) = h1 at *
  refine T_lp (ι := { q : Nat × List (Nat × Seg) × Nat × SV // q.1 ≤ s.length ∧ n + 1 ≤ q.2.2.1 ∧ HOk q.2.2.1 q.2.1 ∧ HExt n h q.2.1 ∧ StrO q.2.1 n q.2.2.1 q.2.2.2 (spR c s q.1).1 })
    (fun q => ([(0, .str (S8 s)), (1, .int .u8 (c.toNat : Int)), (5, q.1.2.2.2), (6, .int .i64 (((spR c s q.1.1).2 : Nat) : Int)), (7, .int .i64 q.1.1)], q.1.2.1, q.1.2.2.1)) (fun q => s.length - q.1.1) ⟨(0, h1, n + 1, .sl n 0 0 0), Nat.zero_le _, Nat.le_refl _, ok1, X1, S1⟩ ?_ ?_
  · refine Imp.id (by show n ≤ n + 1; omega) ?_ (impH.base0 ok1 (Nat.le_refl _) HExt.rfl)
    simp only [go_sem, Nat.reduceLT]
    exact ⟨by omega, rfl⟩
  rintro ⟨⟨q, hq, nq, V⟩, hqL, hnq, okq, xq, Sq⟩
  simp only at hqL hnq okq xq Sq
  obtain ⟨jv, capV, ⟨sn, sc, sr, so⟩, rfl, v1, v2, v3, v4, v5, v6, v7, v8, v9⟩ := Sq
  simp only at v4 v5 v6 v9
  subst v4 v5 v6
  have hle := spR_le c s q
  have hyes := @spR_yes c s q
  have hno := @spR_no c s q
  have nv3 : nq ≠ jv := by omega
  simp only [go_sem, Nat.reduceLT, Nat.reduceLeDiff, hsz, decide_eq_true_eq, decide_eq_false_iff_not]
  generalize hD : (spR c s q).1 = D at *
  generalize hB : (spR c s q).2 = b at *
  refine ⟨fun h1 => ?_, fun h1 => ?_⟩
  · have hqm : q < s.length := by omega
    have hb := bt_S8 s q hqm
    have r1 : (0 : Int) ≤ q ∧ (q : Int) < s.length := ⟨by omega, by omega⟩
    have r2 : (0 : Int) ≤ b ∧ (b : Int) ≤ q ∧ (q : Int) ≤ s.length := ⟨by omega, by omega, by omega⟩
    have wq := w64 (n := (q : Int) + 1) (by omega)
    by_cases he : s.getD q 0 = c
    · have hs1 := hyes he
      have heI : (((s.getD q 0).toNat : Int) = (c.toNat : Int)) = True := eq_true (by rw [he])
      simp only [go_sem, Nat.reduceLT, Nat.reduceLeDiff, hsz, hb, r1, r2, heI, v3, v2, nv3, wq, ext_S8b]
      refine ⟨⟨⟨v7, v8, by omega⟩, fun cap' m1 m2 => ?_⟩, fun hz => absurd trivial hz⟩
      generalize hC : upd (zrow _) 0 (SV.str (S8 (List.take (q - b) (List.drop b s)))) = C
      have hC0 : C 0 = .str (S8 (List.take (q - b) (List.drop b s))) := by rw [← hC]; rfl
      obtain ⟨okN, exN, spN⟩ := strApp1 (n := n) (h := h) (nq := nq) (jv := jv) (A := D) (a := List.take (q - b) (List.drop b s)) (sc := sc) (c1 := C) (w := some (9, 1)) (by omega) okq xq v1 hC0 v9 m1 m2
      refine ⟨⟨(q + 1, _, nq + 2, .sl (nq + 1) 0 (D.length + 1) cap'), by show q + 1 ≤ s.length; omega, by show n + 1 ≤ nq + 2; omega, okN, exN, by show StrO _ _ _ _ (spR c s (q + 1)).1; rw [hs1]; exact spN⟩, by show s.length - (q + 1) < s.length - q; omega, ?_⟩
      refine Imp.id (by show n ≤ nq + 2; omega) ?_ (impH.base0 okN (Nat.le_refl _) HExt.rfl)
      simp only [go_sem, Nat.reduceLT, hs1, Int.natCast_add, Int.natCast_one]
      try omega
    · have hs1 := hno he
      have heI : (((s.getD q 0).toNat : Int) = (c.toNat : Int)) = False := eq_false fun e => he (UInt8.toNat_inj.1 (by omega))
      simp only [go_sem, hsz, hb, r1, heI, wq]
      refine ⟨⟨(q + 1, hq, nq, .sl jv 0 D.length capV), by show q + 1 ≤ s.length; omega, hnq, okq, xq, by show StrO _ _ _ _ (spR c s (q + 1)).1; rw [hs1, hD]; exact ⟨jv, capV, _, rfl, v1, v2, v3, rfl, rfl, rfl, v7, v8, v9⟩⟩, by show s.length - (q + 1) < s.length - q; omega, ?_⟩
      refine Imp.id (by show n ≤ nq; omega) ?_ (impH.base0 okq (Nat.le_refl _) HExt.rfl)
      simp only [go_sem, Nat.reduceLT, hs1, hB, Int.natCast_add, Int.natCast_one]
      exact v2
  · have e : q = s.length := by omega
    subst e
    have r2 : (0 : Int) ≤ b ∧ (b : Int) ≤ s.length := ⟨by omega, by omega⟩
    simp only [go_sem, Nat.reduceLT, Nat.reduceLeDiff, hsz, r2, v3, v2, nv3, ext_S8b]
    refine ⟨Int.le_refl _, ⟨v7, v8, by omega⟩, fun cap' m1 m2 => ?_⟩
    have htk : List.take (s.length - b) (List.drop b s) = List.drop b s := List.take_of_length_le (by rw [List.length_drop]; exact Nat.le_refl _)
    rw [htk]
    generalize hC : upd (zrow _) 0 (SV.str (S8 (List.drop b s))) = C
    have hC0 : C 0 = .str (S8 (List.drop b s)) := by rw [← hC]; rfl
    obtain ⟨okN, exN, spN⟩ := strApp1 (n := n) (h := h) (nq := nq) (jv := jv) (A := D) (a := List.drop b s) (sc := sc) (c1 := C) (w := some (9, 1)) (by omega) okq xq v1 hC0 v9 m1 m2
    exact hK _ _ _ (by omega) exN okN (by rw [hend, hD, hB]; exact spN)
end
end Go.Proofs.YtkanbbfddlhlcaaGreatDoor.V

/- Reading sheets: small functions: the walks. -/
namespace Go.Proofs.YtkanbbfddlhlcaaGreatDoor.V
open Go.RowKit
/-- The library's two error values lie in their variables, as long as the frame lasts. -/
def ErrOk (cx : Cx) : Prop := ∃ e1 e2 : Value, (e1 = .nilIface ∨ ∃ te pe, e1 = .iface te pe) ∧ (e2 = .nilIface ∨ ∃ te pe, e2 = .iface te pe) ∧
  ∀ w, Keeps cx.W cx.w0 w → w.cell? ⟨3, 0, none⟩ = some e1 ∧ w.cell? ⟨4, 0, none⟩ = some e2
theorem ErrOk.sub {cx : Cx} (hE : ErrOk cx) (nt n0 : Nat) : ErrOk ⟨cx.w0, cx.W, nt, n0⟩ := hE
section
variable (cx : Cx) (h : List (Nat × Seg)) (n : Nat)
theorem parse16_E (hE : ErrOk cx) (s : List UInt8) (hs : s.length ≤ 100000000) (K : HK) (hK : ∀ e : Value, K (.tup 2 (cl [.int .i64 (rs s), .raw e])) h n) :
    CallE Tryz.prog cx 45 [.str (S8 s), .int .i64 10, .int .i64 16] h n K := by
  obtain ⟨e1, e2, t1, t2, hE⟩ := hE
  refine ⟨Tryz.call45, by simp only [go_sem, and_self], fun ρ w sh _ => ?_⟩
  have hsz : (S8 s).size = s.length := S8_size s
  obtain ⟨g1, g2⟩ := hE w sh.keeps
  have hd : (S8 s).data.toList = s := S8_list s
  have fin : ∀ (v : Int) (ev : Value) (w' : World), v = rs s → Below w.heap.size w w' → ∃ ρ' r h' n', (∀ i, i < n → ρ i = ρ' i) ∧ n ≤ n' ∧ Ending.returned (.tuple #[.int .i64 v, ev]) = .returned (den ρ' r) ∧ r.lt n' ∧ SatH cx ρ' h' n' w' ∧ K r h' n' := fun v ev w' hv hb => by
    subst hv
    refine ⟨ρ, .tup 2 (cl [.int .i64 (rs s), .raw ev]), h, n, fun _ _ => rfl, Nat.le_refl n, rfl, fun j hj => ?_, sh.keep (Keeps.of_below hb), hK ev⟩
    have hj : j < 2 := hj
    match j with
    | 0 => trivial
    | 1 => trivial
    | j + 2 => omega
  rcases hp : Lib.parseIntB 16 s with v | _ | _
  · have hr : rs s = v := by unfold rs; rw [hp]
    refine (Tryz.strconv_ParseInt_10_at16_ok (S8 s) (by omega) v (by rw [hd]; exact hp) w).mono fun e w' he => ?_
    obtain ⟨rfl, hb⟩ := he
    refine fin v .nilIface w' hr.symm ?_
    rcases hb with rfl | ⟨t, rfl⟩
    · exact Below.refl _ _
    · exact Lib.bytesWorld_below _ _ _
  · have hr : rs s = 0 := by unfold rs; rw [hp]
    refine (Tryz.strconv_ParseInt_10_at16_syntax (S8 s) (by omega) (by rw [hd]; exact hp) e1 w g1 t1).mono fun e w' he => ?_
    obtain ⟨N, rfl, _, _, hb⟩ := he
    exact fin 0 _ w' hr.symm hb
  · have hr : rs s = Lib.intSat 16 s := by unfold rs; rw [hp]
    refine (Tryz.strconv_ParseInt_10_at16_range (S8 s) (by omega) (by rw [hd]; exact hp) e2 w g2 t2).mono fun e w' he => ?_
    obtain ⟨N, rfl, _, _, hb⟩ := he
    rw [hd]
    exact fin _ _ w' hr.symm hb
theorem readSmall_Q (hE : ErrOk cx) (s : List UInt8) (hs : s.length ≤ 100000000) : CallQ Tryz.prog cx 23 [.str (S8 s)] h n (.int .i16 (rs s)) := by
  have hr := rs_in s
  refine callQ_of_T (P := Tryz.prog) hti (nt := 12) (rs := [.tmp 2]) rfl rfl Tryz.call23 Tryz.func23 rfl _ (by simp only [go_sem, and_self]) (Nat.le_of_ble_eq_true rfl) _ (by first | exact trivial | (refine lt_flat rfl ?_; simp [SV.flat]; done) | simp only [go_sem]) fun hok => ?_
  simp only [go_sem, Nat.reduceLT]
  refine callA_false (parse16_E _ _ _ (hE.sub _ _) s hs _ fun e => ?_)
  simp only [go_sem, Nat.reduceLT, w16 (n := rs s) hr]
  done
theorem cut_Q (hM : MaxOk cx) (s p : List UInt8) (hs : s.length ≤ 100000000) : CallQ Tryz.prog cx 22 [.str (S8 s), .str (S8 p)] h n (.tup 3 (cl [.str (S8 (Lib.cut s p).1), .str (S8 (Lib.cut s p).2.1), .bool (Lib.cut s p).2.2])) := by
  obtain ⟨m, hm⟩ := hM
  refine ⟨Tryz.call22, by simp only [go_sem, and_self], ?_, fun ρ w sh _ => ?_⟩
  · intro j hj
    have hj : j < 3 := hj
    match j with
    | 0 => trivial
    | 1 => trivial
    | 2 => trivial
    | j + 3 => omega
  have hsz : (S8 s).size = s.length := S8_size s
  refine (Tryz.strings_Cut (S8 s) (S8 p) m w (by omega) (hm w sh.keeps)).mono fun e w' he => ?_
  obtain ⟨rfl, k, rfl⟩ := he
  refine ⟨?_, sh.keep (Keeps.of_below (below_drewN (Below.refl _ _) _))⟩
  rw [S8_list, S8_list]; rfl
end
end Go.Proofs.YtkanbbfddlhlcaaGreatDoor.V

/- Reading sheets: lines and words: the walks. -/
namespace Go.Proofs.YtkanbbfddlhlcaaGreatDoor.V
/-- A list of words, as the library's split lays it. -/
def strsS (r : List (List UInt8)) : Seg := ⟨r.length, strsC r, true, some (9, r.length)⟩
@[go_sem] theorem strsS_eq (r : List (List UInt8)) : strsS r = ⟨r.length, strsC r, true, some (9, r.length)⟩ := rfl
/-- A list of lists of words lies at j. -/
structure Sls (h : List (Nat × Seg)) (lo n j cap : Nat) (sc : Nat → SV) (LL : List (List (List UInt8))) : Prop where
  lt : j < n
  seg : hget h j = some ⟨LL.length, sc, true, some (29, cap)⟩
  le : LL.length ≤ cap
  cap : cap ≤ maxLen
  row : ∀ k, k < LL.length → ∃ i, lo ≤ i ∧ i < n ∧ i ≠ j ∧ sc k = .sl i 0 (LL.getD k []).length (LL.getD k []).length ∧ hget h i = some (strsS (LL.getD k []))
theorem slsApp {h hq : List (Nat × Seg)} {lo n nq j cap cap' jb : Nat} {sc c1 : Nat → SV} {LL : List (List (List UInt8))} {r : List (List UInt8)} {w : Option (Nat × Nat)} {tb : Seg}
    (S : Sls hq lo nq j cap sc LL) (ok : HOk nq hq) (X : HExt n h hq) (hn : n ≤ j) (hnb : n ≤ jb) (hlo : n ≤ lo) (hln : lo ≤ nq) (hjb : jb < lo) (hjbj : jb ≠ j) (hc1 : c1 0 = .sl nq 0 r.length r.length) (m1 : LL.length + 1 ≤ cap') (m2 : cap' ≤ maxLen)
    {hN : List (Nat × Seg)} (hb0 : ∃ t, hget hq jb = some t) (htb : ∀ k, k < tb.n → (tb.c k).lt (nq + 3))
    (e : hN = (nq + 2, ⟨LL.length + 1, both LL.length sc (news c1 0), true, some (29, cap')⟩) :: (nq + 1, ⟨1, c1, true, w⟩) :: (nq, strsS r) :: hset (hdel hq j) jb tb) :
    HOk (nq + 3) hN ∧ HExt n h hN ∧ Sls hN lo (nq + 3) (nq + 2) cap' (both LL.length sc (news c1 0)) (LL ++ [r]) ∧ hget hN jb = some tb ∧ ∀ i t, i < nq → i ≠ j → i ≠ jb → hget hq i = some t → hget hN i = some t := by
  subst e
  have hjn := S.lt
  have old : ∀ i t, i < nq → i ≠ j → i ≠ jb → hget hq i = some t → hget ((nq + 2, (⟨LL.length + 1, both LL.length sc (news c1 0), true, some (29, cap')⟩ : Seg)) :: (nq + 1, ⟨1, c1, true, w⟩) :: (nq, strsS r) :: hset (hdel hq j) jb tb) i = some t := fun i t h1 h2 h3 h4 => by
    simp only [hget]
    rw [if_neg (by omega), if_neg (by omega), if_neg (by omega), hget_hset, if_neg (Ne.symm h3), hget_hdel, if_neg (Ne.symm h2)]
    exact h4
  have hjbq : jb < nq := by omega
  have hbe : hget ((nq + 2, (⟨LL.length + 1, both LL.length sc (news c1 0), true, some (29, cap')⟩ : Seg)) :: (nq + 1, ⟨1, c1, true, w⟩) :: (nq, strsS r) :: hset (hdel hq j) jb tb) jb = some tb := by
    obtain ⟨t, ht⟩ := hb0
    simp only [hget]
    rw [if_neg (by omega), if_neg (by omega), if_neg (by omega), hget_hset, if_pos rfl, hget_hdel, if_neg (Ne.symm hjbj), ht]
    rfl
  have cel : ∀ k, k < LL.length + 1 → ∃ i, lo ≤ i ∧ i < nq + 3 ∧ i ≠ nq + 2 ∧ both LL.length sc (news c1 0) k = .sl i 0 ((LL ++ [r]).getD k []).length ((LL ++ [r]).getD k []).length ∧ hget ((nq + 2, (⟨LL.length + 1, both LL.length sc (news c1 0), true, some (29, cap')⟩ : Seg)) :: (nq + 1, ⟨1, c1, true, w⟩) :: (nq, strsS r) :: hset (hdel hq j) jb tb) i = some (strsS ((LL ++ [r]).getD k [])) := fun k hk => by
    by_cases hk2 : k < LL.length
    · obtain ⟨i, a1, a2, a3, a4, a5⟩ := S.row k hk2
      refine ⟨i, a1, by omega, by omega, ?_, ?_⟩
      · unfold both
        rw [if_pos hk2, a4, List.getD_eq_getElem?_getD, List.getD_eq_getElem?_getD, List.getElem?_append_left hk2]
      · rw [old i _ a2 a3 (by omega) a5, List.getD_eq_getElem?_getD, List.getD_eq_getElem?_getD, List.getElem?_append_left hk2]
    · have ek : k = LL.length := by omega
      subst ek
      have e2 : (LL ++ [r]).getD LL.length [] = r := by simp
      rw [e2]
      refine ⟨nq, hln, by omega, by omega, ?_, ?_⟩
      · unfold both news
        rw [if_neg (by omega), Nat.sub_self, Nat.zero_add, hc1]
      · simp only [hget]
        rw [if_neg (by omega), if_neg (by omega), if_pos trivial]
  refine ⟨fun i t hi => ?_, fun i hi t ht => ?_, ⟨by omega, by simp [hget], by simpa using m1, m2, fun k hk => cel k (by simpa using hk)⟩, hbe, old⟩
  · simp only [hget] at hi
    split at hi
    · rename_i e; cases hi
      refine ⟨by omega, fun k hk => ?_⟩
      obtain ⟨i', a1, a2, a3, a4, _⟩ := cel k hk
      show (both LL.length sc (news c1 0) k).lt (nq + 3)
      rw [a4]; exact a2
    · split at hi
      · rename_i e; cases hi
        refine ⟨by omega, fun k hk => ?_⟩
        have hk : k < 1 := hk
        obtain rfl : k = 0 := by omega
        show (c1 0).lt (nq + 3)
        rw [hc1]; show nq < nq + 3; omega
      · split at hi
        · rename_i e; cases hi
          exact ⟨by omega, fun k hk => trivial⟩
        · rw [hget_hset] at hi
          split at hi
          · rename_i e; subst e
            obtain ⟨t', ht'⟩ := hb0
            rw [hget_hdel, if_neg (Ne.symm hjbj), ht'] at hi
            cases hi
            exact ⟨by omega, htb⟩
          · rw [hget_hdel] at hi
            split at hi
            · cases hi
            · exact ⟨by have := (ok i t hi).1; omega, fun k hk => SV.lt_mono (by omega) _ ((ok i t hi).2 k hk)⟩
  · exact old i t (by omega) (by omega) (by omega) (X i hi t ht)
section
variable (cx : Cx) (h : List (Nat × Seg)) (n : Nat)
def tooL (LL : List (List (List UInt8))) (r : List (List UInt8)) : Bool := decide (8 < r.length) || decide (r.length ≠ (LL.getD 0 []).length)
theorem lines1_Q (lo j cap jb : Nat) (sc : Nat → SV) (LL : List (List (List UInt8))) (r : List (List UInt8)) (i : Nat) (S : Sls h lo n j cap sc LL) (sb : Seg) (hb : hget h jb = some sb) (hb1 : sb.n = 1) (hb2 : sb.c 0 = .sl j 0 LL.length cap) (hbn : jb < n) (hL : 0 < LL.length) (hin : i < n) :
    CallQ Tryz.prog cx 43 [.sl i 0 r.length r.length, .ptr jb 0] h n (.bool (tooL LL r)) := by
  obtain ⟨i0, a1, a2, a3, a4, a5⟩ := S.row 0 hL
  have hs := S.seg
  have hj := S.lt
  obtain ⟨sbn, sbc, sbr, sbo⟩ := sb
  simp only at hb1 hb2
  subst hb1
  have b1 : (0 : Int) < LL.length := by omega
  have b2 : 1 ≤ LL.length := by omega
  refine callQ_of_T (P := Tryz.prog) hti (nt := 16) (rs := [.tmp 3]) rfl rfl Tryz.call43 Tryz.func43 rfl _ (by simp only [go_sem, and_self]) (Nat.le_of_ble_eq_true rfl) _ (by first | exact trivial | (refine lt_flat rfl ?_; simp [SV.flat]; done) | simp only [go_sem]) fun hok => ?_
  by_cases h8 : 8 < r.length
  · have h8T : ((8 : Int) < r.length) = True := eq_true (by omega)
    have e : tooL LL r = true := by unfold tooL; rw [decide_eq_true h8]; rfl
    simp only [go_sem, Nat.reduceLT, h8T, e]
    try rfl
  · have h8F : ((8 : Int) < r.length) = False := eq_false (by omega)
    have e : tooL LL r = decide (r.length ≠ (LL.getD 0 []).length) := by unfold tooL; rw [decide_eq_false h8]; rfl
    simp only [go_sem, Nat.reduceLT, Int.reduceToNat, Int.reduceLE, h8F, e, hb, hbn, hb2, b1, b2, hs, hj, a4]
    by_cases hh : r.length = (LL.getD 0 []).length
    · rw [hh]; simp
    · have h2 : ¬ ((r.length : Int) = ((LL.getD 0 []).length : Int)) := by omega
      rw [decide_eq_false h2, decide_eq_true hh]; rfl
set_option maxRecDepth 20000 in
theorem containsLines_Q (lo j cap jb : Nat) (sc : Nat → SV) (LL : List (List (List UInt8))) (S : Sls h lo n j cap sc LL) (sb : Seg) (hb : hget h jb = some sb) (hb1 : sb.n = 1) (hb2 : sb.c 0 = .sl j 0 LL.length cap) (hbn : jb < n) (hl9 : LL.length ≤ 1000000000) :
    CallQ Tryz.prog cx 65 [.sl j 0 LL.length cap, .fn 43 0 (cl []) 1 (cl [.ptr jb 0])] h n (.int .i64 (if LL.any (tooL LL) then ((LL.findIdx (tooL LL) : Nat) : Int) else -1)) := by
  have hs := S.seg
  have hj := S.lt
  have hF : (SV.fn 43 0 (cl []) 1 (cl [.ptr jb 0])).lt n := ⟨fun j hj => absurd hj (Nat.not_lt_zero j), fun j hj => by
    have hj : j < 1 := hj
    match j with
    | 0 => exact hbn
    | j + 1 => omega⟩
  refine callQ_of_T (P := Tryz.prog) hti (nt := 19) (rs := [.tmp 4]) rfl rfl Tryz.call65 Tryz.func65 rfl _ (by simp only [go_sem, and_self]) (Nat.le_of_ble_eq_true rfl) _ (by first | exact trivial | (refine lt_flat rfl ?_; simp [SV.flat]; done) | simp only [go_sem]) fun hok => ?_
  simp only [go_sem, Nat.reduceLT, Int.reduceNeg]
  refine T_lp (ι := { q : Nat // q ≤ LL.length ∧ ∀ k, k < q → tooL LL (LL.getD k []) = false })
    (fun q => ([(0, .sl j 0 LL.length cap), (1, .fn 43 0 (cl []) 1 (cl [.ptr jb 0])), (7, .int .i64 LL.length), (8, .int .i64 q.1)], h, n)) (fun q => LL.length - q.1) ⟨0, by simp⟩ ?_ ?_
  · refine Imp.id (by simp) ?_ (impH.base0 hok (by simp) HExt.rfl)
    simp only [go_sem, Nat.reduceLT]
    exact ⟨hj, hbn⟩
  rintro ⟨q, hq, hall⟩
  simp only [go_sem, Nat.reduceLT, Int.reduceNeg, decide_eq_true_eq, decide_eq_false_iff_not]
  refine ⟨fun h1 => ?_, fun h1 => ?_⟩
  rotate_left
  · have eq1 : q = LL.length := by omega
    subst eq1
    have hn : LL.any (tooL LL) = false := by
      rw [List.any_eq_false]
      intro r hr
      obtain ⟨k, hk, rfl⟩ := List.mem_iff_getElem.1 hr
      have := hall k hk
      rw [List.getD_eq_getElem?_getD, List.getElem?_eq_getElem hk] at this
      simpa using this
    rw [hn]; rfl
  have hql : q < LL.length := by omega
  obtain ⟨i0, a1, a2, a3, a4, a5⟩ := S.row q hql
  have r1 : (0 : Int) ≤ q ∧ (q : Int) < LL.length := ⟨by omega, by omega⟩
  have b2 : q ≤ LL.length - 1 := by omega
  have b3 : 1 ≤ LL.length := by omega
  have b4 : q + 1 ≤ LL.length := by omega
  simp only [go_sem, Nat.reduceLT, Int.reduceNeg, hs, hj, r1, b2, b3, b4, a4]
  refine (lines1_Q _ _ _ lo j cap jb sc LL (LL.getD q []) i0 S sb hb hb1 hb2 hbn (by omega) a2).A ?_
  cases hpj : tooL LL (LL.getD q [])
  · simp only [go_sem, Nat.reduceLT, Int.reduceNeg]
    refine ⟨⟨q + 1, by omega, fun k hk => by rcases (by omega : k < q ∨ k = q) with h | rfl; exact hall k h; exact hpj⟩, by show LL.length - (q + 1) < LL.length - q; omega, ?_⟩
    refine Imp.id (by simp) ?_ (impH.base0 hok (by simp) HExt.rfl)
    simp only [go_sem, Nat.reduceLT, w64 (n := (q : Int) + 1) (by omega), Int.natCast_add, Int.natCast_one]
    exact ⟨hj, hbn⟩
  · have hg : LL.getD q [] = LL[q] := (getE_D LL [] hql).symm
    have hA : LL.any (tooL LL) = true := List.any_eq_true.2 ⟨LL[q], List.getElem_mem _, by rw [← hg]; exact hpj⟩
    have hI : LL.findIdx (tooL LL) = q := by
      refine (List.findIdx_eq hql).2 ⟨by rw [← hg]; exact hpj, fun k hk => ?_⟩
      have := hall k hk
      rw [← getE_D LL [] (by omega)] at this
      exact this
    rw [hA, if_pos rfl, hI]
    simp only [go_sem, Nat.reduceLT, Int.reduceNeg]
theorem contLines_Q (lo j cap jb : Nat) (sc : Nat → SV) (LL : List (List (List UInt8))) (S : Sls h lo n j cap sc LL) (sb : Seg) (hb : hget h jb = some sb) (hb1 : sb.n = 1) (hb2 : sb.c 0 = .sl j 0 LL.length cap) (hbn : jb < n) (hl9 : LL.length ≤ 1000000000) :
    CallQ Tryz.prog cx 42 [.sl j 0 LL.length cap, .fn 43 0 (cl []) 1 (cl [.ptr jb 0])] h n (.bool (LL.any (tooL LL))) := by
  refine callQ_of_T (P := Tryz.prog) hti (nt := 9) (rs := [.tmp 4]) rfl rfl Tryz.call42 Tryz.func42 rfl _ (by simp only [go_sem, and_self]) (Nat.le_of_ble_eq_true rfl) _ (by first | exact trivial | (refine lt_flat rfl ?_; simp [SV.flat]; done) | simp only [go_sem]) fun hok => ?_
  simp only [go_sem, Nat.reduceLT]
  refine (containsLines_Q _ _ _ lo j cap jb sc LL S sb hb hb1 hb2 hbn hl9).A ?_
  cases hA : LL.any (tooL LL)
  · rw [if_neg (by simp)]
    simp only [go_sem, Nat.reduceLT, Int.reduceLE, Int.reduceNeg]
    try rfl
  · rw [if_pos rfl]
    simp only [go_sem, Nat.reduceLT]
    simp
end
end Go.Proofs.YtkanbbfddlhlcaaGreatDoor.V

/- Reading sheets: lines and words of a text: the walk. -/
namespace Go.Proofs.YtkanbbfddlhlcaaGreatDoor.V
/-- The words of all lines; whether they are too many. -/
def wordsT (s : List UInt8) : List (List (List UInt8)) := (spl 10 (Lib.trimSuffix s [10])).map (spl 32)
def tooB (LL : List (List (List UInt8))) : Bool := decide (8 < LL.length) || LL.any (tooL LL)
def shWH (W H : Int) : Sh := ⟨W, H, fun _ _ => 0, fun _ _ _ => 0, fun _ => 0⟩
theorem Sls.set {h : List (Nat × Seg)} {lo n j cap i : Nat} {sc : Nat → SV} {LL : List (List (List UInt8))} {t : Seg} (S : Sls h lo n j cap sc LL) (hi : i < lo) (hij : i ≠ j) : Sls (hset h i t) lo n j cap sc LL :=
  ⟨S.lt, by rw [hget_hset, if_neg hij]; exact S.seg, S.le, S.cap, fun k hk => by
    obtain ⟨i0, a1, a2, a3, a4, a5⟩ := S.row k hk
    exact ⟨i0, a1, a2, a3, a4, by rw [hget_hset, if_neg (by omega)]; exact a5⟩⟩
section
variable (cx : Cx) (h : List (Nat × Seg)) (n : Nat)
set_option maxRecDepth 20000 in
theorem readLines_E (hM : MaxOk cx) (s : List UInt8) (hs9 : s.length ≤ 1100000) (K : HK)
    (hno : tooB (wordsT s) = true → ∀ h' n', n ≤ n' → HExt n h h' → HOk n' h' → K (.tup 3 (cl [.nils, .agg 266 (shC sh0), .bool false])) h' n')
    (hyes : tooB (wordsT s) = false → ∀ lo j cap sc h' n', n ≤ n' → HExt n h h' → HOk n' h' → Sls h' lo n' j cap sc (wordsT s) → K (.tup 3 (cl [.sl j 0 (wordsT s).length cap, .agg 266 (shC (shWH ((wordsT s).getD 0 []).length (wordsT s).length)), .bool true])) h' n') :
    CallE Tryz.prog cx 20 [.str (S8 s)] h n K := by
  have e10 : (⟨#[10]⟩ : ByteArray) = S8 [10] := rfl
  have e32 : (⟨#[32]⟩ : ByteArray) = S8 [32] := rfl
  have hT9 : (Lib.trimSuffix s [10]).length ≤ s.length := by
    unfold Lib.trimSuffix
    split
    · rw [List.length_take]; omega
    · exact Nat.le_refl _
  refine callE_of_T (P := Tryz.prog) hti (nt := 48) (rs := [.tmp 2, .cell 3 40, .tmp 4]) rfl rfl Tryz.call20 Tryz.func20 rfl _ (by simp only [go_sem, and_self]) (Nat.le_of_ble_eq_true rfl) _ fun hok => ?_
  simp only [go_sem, Nat.reduceLT, Nat.reduceEqDiff, reduceIte, e10]
  refine (trim_Q _ _ _ s [10] (by omega)).A ?_
  unfold wordsT at *
  generalize hT : Lib.trimSuffix s [10] = T0 at *
  simp only [go_sem, Nat.reduceLT, e10]
  refine callA_false (split_E _ _ _ (hM.sub _ _) T0 10 (by omega) _ ?_)
  have hLn := List.length_pos_iff.2 (spl_ne 10 T0)
  have hL9 := spl_len 10 T0
  have hcnt : T0.count 10 ≤ T0.length := List.count_le_length
  have hl9 : ∀ y, ((spl 10 T0).getD y []).length ≤ T0.length := fun y => by
    rw [List.getD_eq_getElem?_getD]
    cases hy : (spl 10 T0)[y]? with
    | none => simp
    | some a => exact spl_lenle (List.mem_of_getElem? hy)
  generalize hLL : spl 10 T0 = L at *
  simp only [go_sem, Nat.reduceLT, Nat.reduceEqDiff, reduceIte]
  generalize zrow _ = Z
  have hget1 : ∀ (a : Nat) (b c : Seg) (r : List (Nat × Seg)), hget ((a, b) :: r) a = some b := fun a b c r => by simp [hget]
  generalize hh1 : ((n + 4, (⟨266, shC sh0, true, none⟩ : Seg)) :: (n + 3, ⟨1, cl [SV.sl (n + 2) 0 0 0], true, none⟩) :: (n + 2, ⟨0, Z, true, some (29, 0)⟩) :: (n + 1, ⟨L.length, strsC L, true, some (9, L.length)⟩) :: (n, ⟨266, shC sh0, true, none⟩) :: h) = h1
  have g0 : hget h1 n = some (shS sh0) := by rw [← hh1]; simp only [go_sem]
  have g1 : hget h1 (n + 1) = some (strsS L) := by rw [← hh1]; simp only [go_sem, Nat.reduceLT]
  have g2 : hget h1 (n + 2) = some ⟨0, Z, true, some (29, 0)⟩ := by rw [← hh1]; simp only [go_sem, Nat.reduceLT]
  have g3 : hget h1 (n + 3) = some ⟨1, cl [SV.sl (n + 2) 0 0 0], true, none⟩ := by rw [← hh1]; simp only [go_sem, Nat.reduceLT]
  have g4 : hget h1 (n + 4) = some (shS sh0) := by rw [← hh1]; simp only [go_sem]
  have X1 : HExt n h h1 := by rw [← hh1]; simp only [go_sem, HExt_cons]
  have ok1 : HOk (n + 5) h1 := fun i t hi => by
    rw [← hh1] at hi
    simp only [hget] at hi
    split at hi
    · rename_i e; cases hi; exact ⟨by omega, fun k hk => (shC_flat _ k).below _⟩
    split at hi
    · rename_i e; cases hi
      refine ⟨by omega, fun k hk => ?_⟩
      have hk : k < 1 := hk
      obtain rfl : k = 0 := by omega
      show n + 2 < n + 5; omega
    split at hi
    · rename_i e; cases hi; exact ⟨by omega, fun k hk => absurd hk (Nat.not_lt_zero k)⟩
    split at hi
    · rename_i e; cases hi; exact ⟨by omega, fun k hk => trivial⟩
    split at hi
    · rename_i e; cases hi; exact ⟨by omega, fun k hk => (shC_flat _ k).below _⟩
    · exact ⟨by have := (hok i t hi).1; omega, fun k hk => SV.lt_mono (by omega) _ ((hok i t hi).2 k hk)⟩
  have S1 : Sls h1 (n + 5) (n + 5) (n + 2) 0 Z [] := ⟨by omega, g2, Nat.le_refl _, Nat.zero_le _, fun k hk => absurd hk (Nat.not_lt_zero k)⟩
  clear hh1
  refine T_lp (ι := { q : Nat × List (Nat × Seg) × Nat × Nat × Nat × (Nat → SV) × (Nat → SV) // q.1 ≤ L.length ∧ n + 5 ≤ q.2.2.1 ∧ HOk q.2.2.1 q.2.1 ∧ HExt n h q.2.1 ∧ Sls q.2.1 (n + 5) q.2.2.1 q.2.2.2.1 q.2.2.2.2.1 q.2.2.2.2.2.1 ((L.take q.1).map (spl 32)) ∧
      (q.2.2.2.1 = n + 2 ∨ n + 5 ≤ q.2.2.2.1) ∧ hget q.2.1 n = some (shS sh0) ∧ hget q.2.1 (n + 1) = some (strsS L) ∧ hget q.2.1 (n + 4) = some (shS sh0) ∧ hget q.2.1 (n + 3) = some ⟨1, q.2.2.2.2.2.2, true, none⟩ ∧ q.2.2.2.2.2.2 0 = .sl q.2.2.2.1 0 q.1 q.2.2.2.2.1 })
    (fun q => ([(3, .ptr n 0), (4, .bool false), (2, .nils), (6, .ptr (n + 3) 0), (7, .ptr (n + 4) 0), (15, .sl (n + 1) 0 L.length L.length), (16, .int .i64 L.length), (17, .int .i64 q.1.1)], q.1.2.1, q.1.2.2.1)) (fun q => L.length - q.1.1)
    ⟨(0, h1, n + 5, n + 2, 0, Z, cl [SV.sl (n + 2) 0 0 0]), Nat.zero_le _, Nat.le_refl _, ok1, X1, S1, .inl rfl, g0, g1, g4, g3, rfl⟩ ?_ ?_
  · refine Imp.id (by show n ≤ n + 5; omega) ?_ (impH.base0 ok1 (Nat.le_refl _) HExt.rfl)
    simp only [go_sem, Nat.reduceLT]
    omega
  rintro ⟨⟨q, hq, nq, j, cap, sc, cb⟩, f1, f2, f3, f4, f5, f6, f7, f8, f9, f10, f11⟩
  simp only at f1 f2 f3 f4 f5 f6 f7 f8 f9 f10 f11
  have f12 : n + 1 < nq := by omega
  have f13 : n + 3 < nq := by omega
  have f14 : n + 4 < nq := by omega
  have f15 : n < nq := by omega
  simp only [go_sem, Nat.reduceLT, decide_eq_true_eq, decide_eq_false_iff_not]
  refine ⟨fun hq1 => ?_, fun hq1 => ?_⟩
  · have hql : q < L.length := by omega
    have r1 : (0 : Int) ≤ q ∧ (q : Int) < L.length := ⟨by omega, by omega⟩
    have b2 : q ≤ L.length - 1 := by omega
    have b3 : 1 ≤ L.length := by omega
    have b4 : q + 1 ≤ L.length := by omega
    have hcq : strsC L q = .str (S8 (L.getD q [])) := rfl
    simp only [go_sem, Nat.reduceLT, f8, f12, r1, b2, b3, b4, hcq, hql]
    refine T_drawG hti 6 [4, 5] (.b 0 0 (.b 0 1 (.b 2 2 (.b 2 3 (.b 4 4 (.b 4 5 (.f) .o) .o) .o) .o) .o) .o) _ _ (by kernel_rfl) (by kernel_rfl) ?_
    simp only [go_sem, Nat.reduceLT, Nat.reduceLeDiff, f10, f13, f11, e32]
    refine callA_false (split_E _ _ _ (hM.sub _ _) (L.getD q []) 32 (by have := hl9 q; omega) _ ?_)
    have u1 : nq + 1 ≠ j := by have := f5.lt; omega
    have u2 : nq ≠ j := by have := f5.lt; omega
    have u3 : nq + 1 ≠ n + 3 := by omega
    have u4 : nq + 2 ≠ n + 3 := by omega
    have u5 : nq ≠ n + 3 := by omega
    have u6 : j < nq + 1 + 1 := by have := f5.lt; omega
    have u7 : n + 3 < nq + 2 + 1 := by omega
    have f5s := f5.seg
    have f5l := f5.le
    have f5c := f5.cap
    rw [List.length_map, List.length_take, Nat.min_eq_left f1] at f5s f5l
    generalize hr : spl 32 (L.getD q []) = r at *
    have u0 : j < nq := f5.lt
    simp only [go_sem, Nat.reduceLT, Nat.reduceLeDiff, u0, f13, u6, u7, f5s, HExt_cons]
    refine ⟨⟨f5l, f5c, by omega⟩, fun cap' m1 m2 => ?_⟩
    have jne : j ≠ n + 3 := by omega
    have d1 : hget (hdel hq j) (n + 3) = some ⟨1, cb, true, none⟩ := by rw [hget_hdel, if_neg jne]; exact f10
    generalize hC : upd (zrow _) 0 (SV.sl nq 0 r.length r.length) = C
    have hC0 : C 0 = .sl nq 0 r.length r.length := by rw [← hC]; rfl
    simp only [go_sem, Nat.reduceLT, reduceIte, d1, f13, u7]
    have hllq : ((L.take q).map (spl 32)).length = q := by rw [List.length_map, List.length_take]; omega
    have htk : (L.take (q + 1)).map (spl 32) = (L.take q).map (spl 32) ++ [r] := by
      rw [List.take_succ, List.getElem?_eq_getElem hql, List.map_append]
      have : L.getD q [] = L[q] := (getE_D L [] hql).symm
      rw [← hr, this]; rfl
    obtain ⟨k1, k2, k3, k4, k5⟩ := slsApp (h := h) (n := n) (cap' := cap') (jb := n + 3) (c1 := C) (r := r) (w := some (29, 1)) (tb := ⟨1, cl [SV.sl (nq + 2) 0 (q + 1) cap'], true, none⟩) f5 f3 f4 (by omega) (by omega) (by omega) f2 (by omega) (by omega) hC0 (by omega) m2 ⟨_, f10⟩ (fun k hk => by
      have hk : k < 1 := hk
      obtain rfl : k = 0 := by omega
      show nq + 2 < nq + 3; omega) rfl
    rw [hllq] at k1 k2 k3 k4 k5
    rw [← htk] at k3
    refine ⟨⟨(q + 1, _, nq + 3, nq + 2, cap', _, cl [SV.sl (nq + 2) 0 (q + 1) cap']), by show q + 1 ≤ L.length; omega, by show n + 5 ≤ nq + 3; omega, k1, k2, k3, .inr (by show n + 5 ≤ nq + 2; omega), k5 _ _ (by omega) (by omega) (by omega) f7, k5 _ _ (by omega) (by omega) (by omega) f8, k5 _ _ (by omega) (by omega) (by omega) f9, k4, rfl⟩, by show L.length - (q + 1) < L.length - q; omega, ?_⟩
    refine Imp.id (by show n ≤ nq + 3; omega) ?_ (impH.base0 k1 (Nat.le_refl _) HExt.rfl)
    simp only [go_sem, Nat.reduceLT, w64 (n := (q : Int) + 1) (by omega), Int.natCast_add, Int.natCast_one]
    omega
  · have eq1 : q = L.length := by omega
    subst eq1
    rw [List.take_length] at f5
    have hll : (L.map (spl 32)).length = L.length := by rw [List.length_map]
    have f5s := f5.seg
    rw [hll] at f5s
    have u0 : j < nq := f5.lt
    simp only [go_sem, Nat.reduceLT, f10, f13, f11]
    have hno2 : tooB (L.map (spl 32)) = true → ∀ t, HOk nq (hset hq n t) → K (.tup 3 (cl [.nils, .agg 266 (shC sh0), .bool false])) (hset hq n t) nq := fun e t hk => hno e _ _ (by omega) (fun i hi u hu => by rw [hget_hset, if_neg (by omega)]; exact f4 i hi u hu) hk
    have okn : HOk nq (hset hq n (shS sh0)) := f3.hset fun k hk => (shC_flat _ k).below _
    have hgn : hget (hset hq n (shS sh0)) n = some (shS sh0) := hget_hset_self f7 _
    by_cases h8 : 8 < L.length
    · have h8T : ((8 : Int) < L.length) = True := eq_true (by omega)
      have ht : tooB (L.map (spl 32)) = true := by unfold tooB; rw [hll, decide_eq_true h8]; rfl
      simp only [go_sem, Nat.reduceLT, reduceIte, reduceCtorEq, h8T, f7, f15, hgn]
      exact hno2 ht _ okn
    · have h8F : ((8 : Int) < L.length) = False := eq_false (by omega)
      simp only [go_sem, h8F]
      have hcl := contLines_Q ⟨cx.w0, cx.W, 48, n⟩ hq nq (n + 5) j cap (n + 3) sc (L.map (spl 32)) f5 _ f10 rfl (by rw [hll]; exact f11) f13 (by rw [hll]; omega)
      rw [hll] at hcl
      refine hcl.A ?_
      cases ha : (L.map (spl 32)).any (tooL (L.map (spl 32)))
      · have ht : tooB (L.map (spl 32)) = false := by unfold tooB; rw [hll, decide_eq_false h8, ha]; rfl
        obtain ⟨i0, a1, a2, a3, a4, a5⟩ := f5.row 0 (by rw [hll]; omega)
        have hW8 : ((L.map (spl 32)).getD 0 []).length ≤ 8 := by
          rw [List.any_eq_false] at ha
          have h2 := ha ((L.map (spl 32)).getD 0 []) (by
            rw [← getE_D (L.map (spl 32)) [] (by rw [hll]; omega)]
            exact List.getElem_mem _)
          unfold tooL at h2
          rw [Bool.or_eq_true, not_or] at h2
          have := h2.1
          rw [decide_eq_true_eq] at this
          omega
        have hye := hyes ht (n + 5) j cap sc
        rw [hll] at hye
        generalize hW0 : ((L.map (spl 32)).getD 0 []).length = W0 at *
        have b1 : (0 : Int) < L.length := by omega
        have b2 : 1 ≤ L.length := by omega
        have hg4 : ∀ t, hget (hset hq (n + 4) t) (n + 4) = some t := hget_hset_self f9
        have hg3 : ∀ t, hget (hset hq (n + 4) t) (n + 3) = some ⟨1, cb, true, none⟩ := fun t => by rw [hget_hset, if_neg (by omega)]; exact f10
        have hgn2 : ∀ t u, hget (hset (hset hq (n + 4) t) n u) n = some u := fun t u => hget_hset_self (by rw [hget_hset, if_neg (by omega)]; exact f7) u
        have hgn3 : ∀ t, hget (hset hq (n + 4) t) n = some (shS sh0) := fun t => by rw [hget_hset, if_neg (by omega)]; exact f7
        simp only [go_sem, Nat.reduceLT]
        have okE : HOk nq (hset hq (n + 4) (shS (shWH W0 L.length))) := f3.hset fun k hk => (shC_flat _ k).below _
        refine T_drawH hti 12 [9, 11] (.b 0 0 (.b 0 1 (.b 0 2 (.b 0 3 (.b 0 4 (.b 0 8 (.b 2 5 (.b 0 6 (.b 0 7 (.b 4 9 (.b 0 10 (.b 4 11 (.f) .o) .o) .o) .o) .o) (.b 4 9 (.b 2 5 (.b 0 6 (.b 0 7 (.b 0 10 (.b 4 11 (.f) .o) .o) .o) .o) .o) .o)) .o) .o) .o) .o) .o) .o)  [(3, .ptr n 0), (4, .bool false), (2, .nils), (6, .ptr (n + 3) 0), (7, .ptr (n + 4) 0)] (hset hq (n + 4) (shS (shWH W0 L.length))) nq _ _ (by kernel_rfl) (by kernel_rfl) ?_ ?_
        rotate_left
        · simp only [go_sem, Nat.reduceLT, Nat.reduceLeDiff, Nat.reduceEqDiff, Int.reduceToNat, reduceIte, reduceCtorEq, Int.reduceLE, f10, f13, f11, f9, f14, f5s, u0, a4, b1, b2, w8 (n := (W0 : Int)) (by omega), w8 (n := (L.length : Int)) (by omega), hg4, hg3]
          refine Imp.id (by show n ≤ nq; omega) ?_ (impH.base0 okE (Nat.le_refl _) HExt.rfl)
          simp only [go_sem, Nat.reduceLT]
          omega
        simp only [go_sem]
        refine T_drawT hti 3 _ _ (by kernel_rfl) (by kernel_rfl) ?_
        simp only [go_sem, Nat.reduceLT, reduceIte, hg3, hg4, hgn3, hgn2, f13, f14, f15, f11, u0]
        have R := fun (S : Sh) k (hk : k < (⟨266, shC S, true, none⟩ : Seg).n) => (shC_flat S k).below nq
        refine hye _ _ (by omega) (fun i hi t ht => ?_) ((f3.hset (R _)).hset (R _)) ((f5.set (by omega) (by omega)).set (by omega) (by omega))
        rw [hget_hset, if_neg (by omega), hget_hset, if_neg (by omega)]
        exact f4 i hi t ht
      · have ht : tooB (L.map (spl 32)) = true := by unfold tooB; rw [ha, Bool.or_true]
        simp only [go_sem, Nat.reduceLT, reduceIte, f7, f15, hgn]
        exact hno2 ht _ okn
end
end Go.Proofs.YtkanbbfddlhlcaaGreatDoor.V

/- Reading sheets: the program's code: the walk. -/
namespace Go.Proofs.YtkanbbfddlhlcaaGreatDoor.V
theorem Sls.ext {h h' : List (Nat × Seg)} {lo n j cap : Nat} {sc : Nat → SV} {LL : List (List (List UInt8))} (S : Sls h lo n j cap sc LL) (X : HExt n h h') : Sls h' lo n j cap sc LL :=
  ⟨S.lt, X _ S.lt _ S.seg, S.le, S.cap, fun k hk => by
    obtain ⟨i0, a1, a2, a3, a4, a5⟩ := S.row k hk
    exact ⟨i0, a1, a2, a3, a4, X _ a2 _ a5⟩⟩
/-- The k-th word. -/
def wdL (LL : List (List (List UInt8))) (W k : Nat) : List UInt8 := (LL.getD (k / W) []).getD (k % W) []
theorem wordsT_len (s : List UInt8) : (wordsT s).length = (spl 10 (Lib.trimSuffix s [10])).length := by unfold wordsT; rw [List.length_map]
theorem wordsT_get (s : List UInt8) {y : Nat} (h : y < (wordsT s).length) : (wordsT s).getD y [] = spl 32 ((spl 10 (Lib.trimSuffix s [10])).getD y []) := by
  unfold wordsT at *
  rw [List.length_map] at h
  simp [List.getD_eq_getElem?_getD, h]
theorem wordsT_pos (s : List UInt8) : 0 < (wordsT s).length := by rw [wordsT_len]; exact List.length_pos_iff.2 (spl_ne 10 _)
theorem wordsT_row (s : List UInt8) {y : Nat} (h : y < (wordsT s).length) : 0 < ((wordsT s).getD y []).length := by rw [wordsT_get s h]; exact List.length_pos_iff.2 (spl_ne 32 _)
theorem tooB_no {LL : List (List (List UInt8))} (h : tooB LL = false) : LL.length ≤ 8 ∧ ∀ y, y < LL.length → (LL.getD y []).length = (LL.getD 0 []).length ∧ (LL.getD y []).length ≤ 8 := by
  unfold tooB at h
  rw [Bool.or_eq_false_iff, decide_eq_false_iff_not, List.any_eq_false] at h
  refine ⟨by omega, fun y hy => ?_⟩
  have h2 := h.2 (LL.getD y []) (by rw [← getE_D LL [] hy]; exact List.getElem_mem _)
  unfold tooL at h2
  rw [Bool.not_eq_true, Bool.or_eq_false_iff, decide_eq_false_iff_not, decide_eq_false_iff_not] at h2
  omega
theorem tooB_of {LL : List (List (List UInt8))} {W : Nat} (h1 : LL.length ≤ 8) (hW : W ≤ 8) (h2 : ∀ y, y < LL.length → (LL.getD y []).length = W) (h0 : 0 < LL.length) : tooB LL = false := by
  unfold tooB
  rw [Bool.or_eq_false_iff, decide_eq_false_iff_not, List.any_eq_false]
  refine ⟨by omega, fun r hr => ?_⟩
  obtain ⟨k, hk, rfl⟩ := List.mem_iff_getElem.1 hr
  have e := h2 k hk
  have e0 := h2 0 h0
  rw [← getE_D LL [] hk] at e
  unfold tooL
  rw [Bool.not_eq_true, Bool.or_eq_false_iff, decide_eq_false_iff_not, decide_eq_false_iff_not]
  omega
/-- The text of a valid sheet is read as that sheet. -/
theorem read_back {s : List UInt8} {Q : Sh} (hV : Valid Q) (hR : ShR Q) (hs : s = textS Q) {W H : Nat} (hW : ((wordsT s).getD 0 []).length = W) (hH : (wordsT s).length = H) :
    tooB (wordsT s) = false ∧ Valid (rdN W H (wdL (wordsT s) W) (H * W)) ∧ textS (rdN W H (wdL (wordsT s) W) (H * W)) = s := by
  obtain ⟨W', H', a1, a2, a3, a4, a5, a6, a7, a8, a9, a10⟩ := valid_read hV hR hs
  have eH : H' = H := by rw [← hH, wordsT_len, a7]
  subst eH
  have hrow : ∀ y, y < H' → (wordsT s).getD y [] = spl 32 ((spl 10 s).getD y []) := fun y hy => by rw [wordsT_get s (by omega), (a8 y hy).1]
  have eW : W' = W := by rw [← hW, hrow 0 (by omega), (a8 0 (by omega)).2]
  subst eW
  have hwd : ∀ k, k < H' * W' → wdL (wordsT s) W' k = wdT s W' k := fun k hk => by
    have hy : k / W' < H' := (Nat.div_lt_iff_lt_mul (show 0 < W' by omega)).2 hk
    unfold wdL wdT
    rw [hrow _ hy]
  have hI := rdN_I (H := H') a1 a2.2 (wd := wdL (wordsT s) W') (fun k hk => by rw [hwd k hk]; exact a9 k hk) (H' * W') (Nat.le_refl _)
  obtain ⟨b1, b2⟩ := hI.back a1 a2 (fun k hk => by rw [hwd k hk]; exact a9 k hk)
  refine ⟨tooB_of (by omega) a1.2 (fun y hy => by rw [hrow y (by omega)]; exact (a8 y (by omega)).2) (by omega), b1, textS_of a1.1 hI.wide hI.high a5 a6 fun y hy => ⟨(a8 y hy).2, fun x hx => ?_⟩⟩
  have hk := kOf hx hy
  rw [b2 x y hx hy, hwd _ hk.1]
  unfold wdT
  rw [hk.2.1, hk.2.2]
theorem rs_lt (S : Sh) (c : Int) (n : Nat) : (SV.tup 2 (cl [.agg 266 (shC S), .int .i64 c])).lt n := fun j hj => by
  have hj : j < 2 := hj
  match j with
  | 0 => exact fun k hk => (shC_flat S k).below n
  | 1 => trivial
  | j + 2 => omega
theorem rs_den {P Q : Sh} (c : Int) (hQ : ∀ j, j < 266 → shC Q j = shC P j) (ρ : Rho) : den ρ (.tup 2 (cl [.agg 266 (shC Q), .int .i64 c])) = den ρ (.tup 2 (cl [.agg 266 (shC P), .int .i64 c])) := by
  simp only [den]; congr 1
  exact arr_congr fun j hj => by
    match j with
    | 0 => exact den_aggF hQ ρ
    | 1 => rfl
    | j + 2 => omega
theorem wdL_le {s : List UInt8} (hs : s.length ≤ 1100000) (y x : Nat) : (((wordsT s).getD y []).getD x []).length ≤ 1100000 := by
  have hT9 : (Lib.trimSuffix s [10]).length ≤ s.length := by
    unfold Lib.trimSuffix
    split
    · rw [List.length_take]; omega
    · exact Nat.le_refl _
  have key : ∀ (L : List (List UInt8)) (m x : Nat), (∀ a ∈ L, a.length ≤ m) → (L.getD x []).length ≤ m := fun L m x h => by
    rw [List.getD_eq_getElem?_getD]
    cases hx : L[x]? with
    | none => simp
    | some a => exact h a (List.mem_of_getElem? hx)
  by_cases hy : y < (wordsT s).length
  · rw [wordsT_get s hy]
    refine key _ _ _ fun a ha => ?_
    have h1 := spl_lenle ha
    have h2 := key (spl 10 (Lib.trimSuffix s [10])) (Lib.trimSuffix s [10]).length y fun a ha => spl_lenle ha
    omega
  · have e : (wordsT s).getD y [] = [] := by
      rw [List.getD_eq_getElem?_getD, List.getElem?_eq_none (by omega)]; rfl
    rw [e]
    simp
section
variable (cx : Cx) (h : List (Nat × Seg)) (n : Nat)
set_option maxRecDepth 20000 in
theorem readSheet_Q (hT : TabOk cx) (hM : MaxOk cx) (hE : ErrOk cx) (s : List UInt8) (S : Sh) (c : Int) (hI : RsIs s S c) (hs9 : s.length ≤ 1100000) :
    CallQ Tryz.prog cx 13 [.str (S8 s)] h n (.tup 2 (cl [.agg 266 (shC S), .int .i64 c])) := by
  have e58 : (⟨#[58]⟩ : ByteArray) = S8 [58] := rfl
  have e44 : (⟨#[44]⟩ : ByteArray) = S8 [44] := rfl
  have e119 : (⟨#[119]⟩ : ByteArray) = S8 [119] := rfl
  have hS8 : ∀ a b : List UInt8, (S8 a = S8 b) = (a = b) := fun a b => propext ⟨fun e => by have := congrArg (fun x : ByteArray => x.data.toList) e; simpa [S8_list] using this, fun e => by rw [e]⟩
  have hno : ¬ (∃ Q, Valid Q ∧ ShR Q ∧ s = textS Q) → S = sh0 ∧ c = 5 := fun hq => by
    rcases hI with ⟨_, h1, h2, h3⟩ | ⟨rfl, rfl, _⟩
    · exact absurd ⟨S, h1, h2, h3⟩ hq
    · exact ⟨rfl, rfl⟩
  refine CallE.toQ (rs_lt S c n) fun K hK => ?_
  refine CallE.imp0 (K := fun r h' n' => n ≤ n' ∧ HExt n h h' ∧ ∃ Q : Sh, (∀ j, j < 266 → shC Q j = shC S j) ∧ r = .tup 2 (cl [.agg 266 (shC Q), .int .i64 c])) ?_ ?_
  rotate_left
  · rintro hok r h' n' ⟨g0, hx, Q, hQ, rfl⟩
    exact ⟨.tup 2 (cl [.agg 266 (shC Q), .int .i64 c]), h, n, Nat.le_refl n, by simp only [ren_nil], rs_lt Q c n, impH.base0 hok (Nat.le_refl n) hx, hK _ (rs_den c hQ)⟩
  obtain ⟨W, hW⟩ : ∃ W, ((wordsT s).getD 0 []).length = W := ⟨_, rfl⟩
  obtain ⟨H, hH⟩ : ∃ H, (wordsT s).length = H := ⟨_, rfl⟩
  have hback : ∀ Q, Valid Q → ShR Q → s = textS Q → _ := fun Q q1 q2 q3 => read_back (s := s) q1 q2 q3 hW hH
  have hH0 : 0 < H := by rw [← hH]; exact wordsT_pos s
  have hW0 : 0 < W := by rw [← hW]; exact wordsT_row s (by omega)
  have hwl := wdL_le hs9
  have hrows := @tooB_no (wordsT s)
  refine callE_of_T (P := Tryz.prog) hti (nt := 100) (rs := [.cell 2 40, .tmp 3]) rfl rfl Tryz.call13 Tryz.func13 rfl _ (by simp only [go_sem, and_self]) (Nat.le_of_ble_eq_true rfl) _ fun hok => ?_
  simp only [go_sem, Nat.reduceLT, Nat.reduceEqDiff, reduceIte]
  refine callA_false (readLines_E _ _ _ (hM.sub _ _) s hs9 _ (fun ht h1 n1 hn1 x1 ok1 => ?_) fun ht lo j cap sc h1 n1 hn1 x1 ok1 S1 => ?_)
  · have hbad : ¬ ∃ Q, Valid Q ∧ ShR Q ∧ s = textS Q := by
      rintro ⟨Q, q1, q2, q3⟩
      have := (hback Q q1 q2 q3).1
      rw [ht] at this; cases this
    obtain ⟨rfl, rfl⟩ := hno hbad
    have g1 : hget h1 n = some (shS sh0) := x1 n (by omega) _ (by simp only [go_sem])
    have l1 : n < n1 := by omega
    have g2 : ∀ t, hget ((n1, t) :: h1) n = some (shS sh0) := fun t => by simp only [hget]; rw [if_neg (by omega)]; exact g1
    have xn : HExt n h h1 := HExt.tr (m' := n + 1) (by simp only [go_sem, HExt_cons]) x1 (by omega)
    simp only [go_sem, Nat.reduceLT, Nat.reduceEqDiff, reduceIte, g1, l1, g2]
    refine ⟨by omega, fun i hi t ht => ?_, sh0, fun _ _ => rfl, rfl⟩
    simp only [hget]
    rw [if_neg (by omega), hget_hset, if_neg (by omega)]
    exact xn i hi t ht
  · obtain ⟨hH8, hr8⟩ := hrows ht
    rw [hH] at hH8 hr8
    have hW8 : W ≤ 8 := by rw [← hW]; exact (hr8 0 hH0).2
    have hrW : ∀ y, y < H → ((wordsT s).getD y []).length = W := fun y hy => (hr8 y hy).1.trans hW
    rw [hW, hH]
    have g1 : hget h1 n = some (shS sh0) := x1 n (by omega) _ (by simp only [go_sem])
    have l1 : n < n1 := by omega
    have xn : HExt n h h1 := HExt.tr (m' := n + 1) (by simp only [go_sem, HExt_cons]) x1 (by omega)
    have hRW := rdN_R (W := W) (H := H) ⟨hW0, hW8⟩ hH8 (wdL (wordsT s) W)
    have S1s := S1.seg
    rw [hH] at S1s
    have S1r := S1.row
    have S1l := S1.lt
    have hbk : (∃ Q, Valid Q ∧ ShR Q ∧ s = textS Q) → Valid (rdN W H (wdL (wordsT s) W) (H * W)) ∧ textS (rdN W H (wdL (wordsT s) W) (H * W)) = s := fun ⟨Q, q1, q2, q3⟩ => (hback Q q1 q2 q3).2
    generalize hLLs : wordsT s = LL at *
    generalize hwd : wdL LL W = wd at *
    have hR0 : ShR (shWH W H) := (hRW 0).1
    have h00 : rdN W H wd 0 = shWH W H := rfl
    have hNb : H * W ≤ 8 * 8 := Nat.mul_le_mul hH8 hW8
    simp only [go_sem, Nat.reduceLT, Nat.reduceEqDiff, reduceIte]
    refine callA_false (cells_E _ _ _ n1 0 _ (shWH W H) W H (hget_hit _ _ _) (by omega) (shAt_shC hR0) rfl rfl hW8 hH8 _ fun capc c1 c2 => ?_)
    have o1 : HOk (n1 + 2) ((n1 + 1, ⟨H * W * 2, cellC W, true, some (50, capc * 2)⟩) :: (n1, shS (shWH W H)) :: h1) := fun i t hi => by
      simp only [hget] at hi
      split at hi
      · rename_i e; cases hi; exact ⟨by omega, fun k hk => (cellC_flat _ _).below _⟩
      split at hi
      · rename_i e; cases hi; exact ⟨by omega, fun k hk => (shC_flat _ k).below _⟩
      · exact ⟨by have := (ok1 i t hi).1; omega, fun k hk => SV.lt_mono (by omega) _ ((ok1 i t hi).2 k hk)⟩
    have hN : ∃ N, H * W = N := ⟨_, rfl⟩
    obtain ⟨N, hN⟩ := hN
    rw [hN] at hNb o1 ⊢
    simp only [go_sem, Nat.reduceLT]
    refine T_lp (ι := { q : Nat × List (Nat × Seg) × Nat // q.1 ≤ N ∧ n1 + 2 ≤ q.2.2 ∧ HOk q.2.2 q.2.1 ∧ HExt n1 h1 q.2.1 ∧ hget q.2.1 n1 = some (shS (rdN W H wd q.1)) ∧ hget q.2.1 (n1 + 1) = some ⟨N * 2, cellC W, true, some (50, capc * 2)⟩ })
      (fun q => ([(0, .str (S8 s)), (2, .ptr n 0), (4, .sl j 0 H cap), (5, .ptr n1 0), (24, .sl (n1 + 1) 0 N capc), (25, .int .i64 N), (26, .int .i64 q.1.1)], q.1.2.1, q.1.2.2)) (fun q => N - q.1.1)
      ⟨(0, _, n1 + 2), Nat.zero_le _, Nat.le_refl _, o1, by simp only [go_sem, HExt_cons], by simp only [go_sem, h00], by simp only [go_sem]⟩ ?_ ?_
    · refine Imp.id (by show n ≤ n1 + 2; omega) ?_ (impH.base0 o1 (Nat.le_refl _) (by simp only [go_sem]))
      simp only [go_sem, Nat.reduceLT]
      exact ⟨by omega, by omega⟩
    rintro ⟨⟨q, hq, nq⟩, f1, f2, f3, f4, f5, f6⟩
    simp only at f1 f2 f3 f4 f5 f6
    have f7 : n1 < nq := by omega
    have f8 : n1 + 1 < nq := by omega
    have f9 : n < nq := by omega
    have f10 : hget hq n = some (shS sh0) := f4 n (by omega) _ g1
    have SQ := S1.ext f4
    have SQs := f4 _ S1l _ S1s
    have f11 : j < nq := by omega
    simp only [go_sem, Nat.reduceLT, decide_eq_true_eq, decide_eq_false_iff_not]
    refine ⟨fun hq1 => ?_, fun hq1 => ?_⟩
    rotate_left
    · have eq1 : q = N := by omega
      subst eq1
      have hsn : ∀ (T : Sh) (i : Nat) (t u : Seg), HExt n h (hset hq n t) := fun T i t u z hz v hv => by rw [hget_hset, if_neg (by omega)]; exact f4 z (by omega) v (xn z hz v hv)
      have hsn2 : ∀ (t u : Seg), HExt n h ((nq, u) :: hset hq n t) := fun t u z hz v hv => by simp only [hget]; rw [if_neg (by omega), hget_hset, if_neg (by omega)]; exact f4 z (by omega) v (xn z hz v hv)
      have hgn : ∀ t, hget (hset hq n t) n = some t := hget_hset_self f10
      simp only [go_sem, Nat.reduceLT, f5, f7]
      refine (valid_Q _ _ _ _ _ (shF_shC (hRW q).1)).A ?_
      rw [hN] at hbk
      generalize hRR : rdN W H wd q = R at *
      have hRs : ShR R := by rw [← hRR]; exact (hRW q).1
      cases hv : validB R
      · have hbad : ¬ ∃ Q, Valid Q ∧ ShR Q ∧ s = textS Q := fun e => by
          have := (hbk e).1
          rw [validB_true this] at hv; cases hv
        obtain ⟨rfl, rfl⟩ := hno hbad
        simp only [go_sem, Nat.reduceLT, reduceIte, f10, f9, hgn]
        exact ⟨by omega, hsn sh0 0 _ ⟨0, shC sh0, true, none⟩, sh0, fun _ _ => rfl, rfl⟩
      · simp only [go_sem, Nat.reduceLT]
        refine (text_Q _ _ _ (hT.sub _ _) n1 0 _ R f5 f7 (shAt_shC hRs) (valid_of hv)).A ?_
        by_cases hfin : textS R = s
        · have hc0 : c = 0 ∧ ∀ j, j < 266 → shC R j = shC S j := by
            have hI2 : RsIs s R 0 := .inl ⟨rfl, valid_of hv, hRs, hfin.symm⟩
            exact ⟨(hI2.two hI).1.symm, (hI2.two hI).2⟩
          obtain ⟨rfl, hpq⟩ := hc0
          simp only [go_sem, Nat.reduceLT, reduceIte, hS8, hfin, f5, f7, f10, f9, hgn]
          exact ⟨by omega, hsn sh0 0 _ ⟨0, shC sh0, true, none⟩, R, hpq, rfl⟩
        · have hbad : ¬ ∃ Q, Valid Q ∧ ShR Q ∧ s = textS Q := fun e => hfin (hbk e).2
          obtain ⟨rfl, rfl⟩ := hno hbad
          simp only [go_sem, Nat.reduceLT, reduceIte, hS8, hfin, f10, f9, hgn]
          exact ⟨by omega, hsn sh0 0 _ ⟨0, shC sh0, true, none⟩, sh0, fun _ _ => rfl, rfl⟩
    have hqm : q < N := by omega
    have hqy : q / W < H := (Nat.div_lt_iff_lt_mul hW0).2 (by omega)
    have hqx := Nat.mod_lt q hW0
    have b1 : (0 : Int) ≤ q ∧ (q : Int) < N := ⟨by omega, by omega⟩
    have b2 : q * 2 ≤ N * 2 - 2 := by omega
    have b3 : 2 ≤ N * 2 := by omega
    have b4 : q * 2 + 2 ≤ N * 2 := by omega
    obtain ⟨i0, a1, a2, a3, a4, a5⟩ := SQ.row (q / W) (by omega)
    rw [hrW _ hqy] at a4
    have hwq : wd q = (LL.getD (q / W) []).getD (q % W) [] := by rw [← hwd]; rfl
    have hst : rdN W H wd (q + 1) = stepW (rdN W H wd q) ((q / W : Nat) : Int) ((q % W : Nat) : Int) (wd q) := rfl
    have hRq := (hRW q).1
    have hrl := hrW _ hqy
    have hwl2 := hwl (q / W) (q % W)
    rw [← hwq] at hwl2
    have y0 : (0 : Int) ≤ ((q / W : Nat) : Int) ∧ ((q / W : Nat) : Int) < H := ⟨Int.natCast_nonneg _, by exact_mod_cast hqy⟩
    have x0 : (0 : Int) ≤ ((q % W : Nat) : Int) ∧ ((q % W : Nat) : Int) < W := ⟨Int.natCast_nonneg _, by exact_mod_cast hqx⟩
    have ty : (((q / W : Nat) : Int)).toNat = q / W := Int.toNat_natCast _
    have tx : (((q % W : Nat) : Int)).toNat = q % W := Int.toNat_natCast _
    generalize hpx : ((q % W : Nat) : Int) = px at *
    generalize hpy : ((q / W : Nat) : Int) = py at *
    have hsx : strsC (LL.getD (q / W) []) (q % W) = .str (S8 (wd q)) := by rw [hwq]; rfl
    have z1 : q / W ≤ H - 1 := by omega
    have z2 : q / W + 1 ≤ H := by omega
    have z3 : q % W ≤ W - 1 := by omega
    have z4 : q % W + 1 ≤ W := by omega
    have a2' : i0 < nq + 1 := by omega
    have a2q : i0 < nq := by omega
    have f11' : j < nq + 1 := by omega
    have f7' : n1 < nq + 1 := by omega
    simp only [go_sem, Nat.reduceLT, Nat.reduceEqDiff, reduceIte, b1, b2, b3, b4, f6, f8, cellC_x, cellC_y, hpx, hpy]
    refine T_draw hti _ _ (by kernel_rfl) (by kernel_rfl) ?_
    have okS : ∀ T : Sh, HOk (nq + 1) ((nq, ⟨2, cl [SV.int .i8 px, SV.int .i8 py], true, none⟩) :: hset hq n1 (shS T)) := fun T i t hi => by
      simp only [hget] at hi
      split at hi
      · rename_i e; cases hi; exact ⟨by omega, fun k hk => (pair_flat _ _ hk).below _⟩
      · have := (f3.hset (i := n1) fun k hk => (shC_flat T k).below nq) i t hi
        exact ⟨by omega, fun k hk => SV.lt_mono (by omega) _ (this.2 k hk)⟩
    have xS : ∀ (T : Sh), HExt n1 h1 ((nq, ⟨2, cl [SV.int .i8 px, SV.int .i8 py], true, none⟩) :: hset hq n1 (shS T)) := fun T z hz v hv => by
      simp only [hget]; rw [if_neg (by omega), hget_hset, if_neg (by omega)]; exact f4 z hz v hv
    have gS : ∀ (T : Sh), hget ((nq, ⟨2, cl [SV.int .i8 px, SV.int .i8 py], true, none⟩) :: hset hq n1 (shS T)) n1 = some (shS T) := fun T => by
      simp only [hget]; rw [if_neg (by omega)]; exact hget_hset_self f5 _
    have cS : ∀ (T : Sh), hget ((nq, ⟨2, cl [SV.int .i8 px, SV.int .i8 py], true, none⟩) :: hset hq n1 (shS T)) (n1 + 1) = some ⟨N * 2, cellC W, true, some (50, capc * 2)⟩ := fun T => by
      simp only [hget]; rw [if_neg (by omega), hget_hset, if_neg (by omega)]; exact f6
    have xn8 : (0 : Int) ≤ px ∧ px < 8 := ⟨x0.1, by omega⟩
    have yn8 : (0 : Int) ≤ py ∧ py < 8 := ⟨y0.1, by omega⟩
    simp only [go_sem, Nat.reduceLT, Nat.reduceLeDiff, reduceCtorEq, SQs, f11, f11', y0, x0, ty, tx, z1, z2, z3, z4, a4, a5, hrl, a2', a2q, hsx, e119, hS8]
    by_cases hww : wd q = [119]
    · have hst2 : rdN W H wd (q + 1) = (rdN W H wd q).setWax py (bitsI .or .u8 ((rdN W H wd q).wax py) (shlI .u8 1 px)) := by rw [hst]; unfold stepW; rw [if_pos hww]
      simp only [go_sem, reduceCtorEq, hww, decide_true, f5, f7, f7', xn8, yn8]
      refine T_drawT hti 11 _ _ (by kernel_rfl) (by kernel_rfl) ?_
      simp only [go_sem, Nat.reduceLT, Nat.reduceLeDiff, Nat.reduceEqDiff, reduceIte, reduceCtorEq, f5, f7, f7', xn8, yn8]
      rw [← hst2]
      refine ⟨⟨(q + 1, _, nq + 1), by show q + 1 ≤ N; omega, by show n1 + 2 ≤ nq + 1; omega, okS (rdN W H wd (q + 1)), xS _, gS _, cS _⟩, by show N - (q + 1) < N - q; omega, ?_⟩
      refine Imp.id (by show n ≤ nq + 1; omega) ?_ (impH.base0 (okS _) (Nat.le_refl _) HExt.rfl)
      simp only [go_sem, Nat.reduceLT, w64 (n := (q : Int) + 1) (by omega), Int.natCast_add, Int.natCast_one]
      omega
    · simp only [go_sem, hww, decide_false]
      have hcl := cut_le (wd q) [58]
      rw [e58]
      refine (cut_Q _ _ _ (hM.sub _ _) (wd q) [58] (by omega)).A ?_
      generalize hC1 : (Lib.cut (wd q) [58]).1 = w1 at *
      generalize hC2 : (Lib.cut (wd q) [58]).2.1 = w2 at *
      have hst2 : rdN W H wd (q + 1) = putD ((rdN W H wd q).setWet py px (rs w1)) py px (spl 44 w2) (spl 44 w2).length := by rw [hst]; unfold stepW; rw [if_neg hww, hC1, hC2]
      simp only [go_sem, Nat.reduceLT]
      refine T_drawT hti 9 _ _ (by kernel_rfl) (by kernel_rfl) ?_
      simp only [go_sem, Nat.reduceLT, Nat.reduceLeDiff, reduceCtorEq, f5, f7, f7', xn8, yn8]
      refine (readSmall_Q _ _ _ (hE.sub _ _) w1 (by omega)).A ?_
      simp only [go_sem, Nat.reduceLT, Nat.reduceLeDiff, Nat.reduceEqDiff, reduceIte, reduceCtorEq, f5, f7, f7', xn8, yn8]
      rw [e44]
      have hR1 : ShR ((rdN W H wd q).setWet py px (rs w1)) := hRq.setWet (rs_in _)
      have hpR := fun k => (putD_R hR1 py px (spl 44 w2) k).1
      generalize hS1 : (rdN W H wd q).setWet py px (rs w1) = R1 at *
      refine callA_false (split_E _ _ _ (hM.sub _ _) w2 44 (by omega) _ ?_)
      have hdl := spl_len 44 w2
      have hdc : w2.count 44 ≤ w2.length := List.count_le_length
      have hdg : ∀ k, k < (spl 44 w2).length → ((spl 44 w2).getD k []).length ≤ w2.length := fun k hk => by
        rw [← getE_D (spl 44 w2) [] hk]; exact spl_lenle (List.getElem_mem _)
      generalize hD : spl 44 w2 = D at *
      have ok2 : ∀ T : Sh, HOk (nq + 2) ((nq + 1, strsS D) :: (nq, ⟨2, cl [SV.int .i8 px, SV.int .i8 py], true, none⟩) :: hset hq n1 (shS T)) := fun T i t hi => by
        simp only [hget.eq_2 (j := nq + 1)] at hi
        split at hi
        · rename_i e; cases hi; exact ⟨by omega, fun k hk => trivial⟩
        · have := okS T i t hi
          exact ⟨by omega, fun k hk => SV.lt_mono (by omega) _ (this.2 k hk)⟩
      have hcons : ∀ (T : Sh) z, z < nq + 1 → hget ((nq + 1, strsS D) :: (nq, ⟨2, cl [SV.int .i8 px, SV.int .i8 py], true, none⟩) :: hset hq n1 (shS T)) z = hget ((nq, ⟨2, cl [SV.int .i8 px, SV.int .i8 py], true, none⟩) :: hset hq n1 (shS T)) z := fun T z hz => by
        rw [hget.eq_2, if_neg (by omega)]
      have g5 : ∀ t u, hset (hset hq n1 t) n1 u = hset hq n1 u := fun t u => hset_hset _ _ _ _
      have g6 : ∀ t, hget (hset hq n1 t) n1 = some t := hget_hset_self f5
      have f7'' : n1 < nq + 2 := by omega
      have f15 : nq < nq + 2 := by omega
      simp only [go_sem, Nat.reduceLT]
      refine T_lp (ι := { k : Nat // k ≤ D.length })
        (fun k => ([(0, .str (S8 s)), (2, .ptr n 0), (4, .sl j 0 H cap), (5, .ptr n1 0), (24, .sl (n1 + 1) 0 N capc), (25, .int .i64 N), (26, .int .i64 q), (8, .ptr nq 0), (68, .sl (nq + 1) 0 D.length D.length), (69, .int .i64 D.length), (70, .int .i64 k.1)],
          (nq + 1, strsS D) :: (nq, ⟨2, cl [SV.int .i8 px, SV.int .i8 py], true, none⟩) :: hset hq n1 (shS (putD R1 py px D k.1)), nq + 2)) (fun k => D.length - k.1) ⟨0, Nat.zero_le _⟩ ?_ ?_
      · refine Imp.id (by show n ≤ nq + 2; omega) ?_ (impH.base0 (ok2 R1) (Nat.le_refl _) HExt.rfl)
        simp only [go_sem, Nat.reduceLT]
        omega
      rintro ⟨k, hk⟩
      simp only [go_sem, Nat.reduceLT, decide_eq_true_eq, decide_eq_false_iff_not]
      refine ⟨fun hk1 => ?_, fun hk1 => ?_⟩
      rotate_left
      · have ek : k = D.length := by omega
        subst ek
        rw [← hst2]
        refine ⟨⟨(q + 1, _, nq + 2), by show q + 1 ≤ N; omega, by show n1 + 2 ≤ nq + 2; omega, ok2 (rdN W H wd (q + 1)), fun z hz v hv => (hcons _ z (by omega)).trans (xS _ z hz v hv), (hcons _ _ (by omega)).trans (gS _), (hcons _ _ (by omega)).trans (cS _)⟩, by show N - (q + 1) < N - q; omega, ?_⟩
        refine Imp.id (by show n ≤ nq + 2; omega) ?_ (impH.base0 (ok2 _) (Nat.le_refl _) HExt.rfl)
        simp only [go_sem, Nat.reduceLT, w64 (n := (q : Int) + 1) (by omega), Int.natCast_add, Int.natCast_one]
        omega
      have hkD : k < D.length := by omega
      have v1 : (0 : Int) ≤ k ∧ (k : Int) < D.length := ⟨by omega, by omega⟩
      have v2 : k ≤ D.length - 1 := by omega
      have v3 : 1 ≤ D.length := by omega
      have v4 : k + 1 ≤ D.length := by omega
      have hsk : strsC D k = .str (S8 (D.getD k [])) := rfl
      by_cases hk3 : k < 3
      · have hk3T : ((k : Int) < 3) = True := eq_true (by omega)
        have hpd : putD R1 py px D (k + 1) = (putD R1 py px D k).setDye py px k (rs (D.getD k [])) := by rw [putD, if_pos hk3]
        have hup : upd (shC (putD R1 py px D k)) (66 + py.toNat * 24 + px.toNat * 3 + k) (.int .i16 (rs (D.getD k []))) = shC (putD R1 py px D (k + 1)) := by
          rw [shC_setDyeN _ _ _ _ k yn8.1 yn8.2 xn8.1 xn8.2 hk3, hpd]
        simp only [go_sem, v1, v2, v3, v4, hkD, hsk, hk3T]
        refine ⟨?_, fun hz => absurd trivial hz⟩
        refine T_drawT hti 11 _ _ (by kernel_rfl) (by kernel_rfl) ?_
        simp only [go_sem, Nat.reduceLT, Nat.reduceLeDiff, reduceCtorEq, f7, f7', f7'', f15, xn8, yn8, v1]
        refine (readSmall_Q _ _ _ (hE.sub _ _) (D.getD k []) (by have := hdg k hkD; omega)).A ?_
        simp only [go_sem, Nat.reduceLT, Nat.reduceLeDiff, Nat.reduceEqDiff, reduceIte, reduceCtorEq, f7, f7', f7'', f15, xn8, yn8, v1, hk3T, g6, hup, g5]
        refine ⟨by omega, ⟨k + 1, by omega⟩, by show D.length - (k + 1) < D.length - k; omega, ?_⟩
        refine Imp.id (by show n ≤ nq + 2; omega) ?_ (impH.base0 (ok2 _) (Nat.le_refl _) HExt.rfl)
        simp only [go_sem, Nat.reduceLT, w64 (n := (k : Int) + 1) (by omega), Int.natCast_add, Int.natCast_one]
        omega
      · have hk3F : ((k : Int) < 3) = False := eq_false (by omega)
        have hpd : putD R1 py px D (k + 1) = putD R1 py px D k := by rw [putD, if_neg hk3]
        simp only [go_sem, v1, v2, v3, v4, hkD, hsk, hk3F]
        refine ⟨⟨k + 1, by omega⟩, by show D.length - (k + 1) < D.length - k; omega, ?_⟩
        rw [hpd]
        refine Imp.id (by show n ≤ nq + 2; omega) ?_ (impH.base0 (ok2 _) (Nat.le_refl _) HExt.rfl)
        simp only [go_sem, Nat.reduceLT, w64 (n := (k : Int) + 1) (by omega), Int.natCast_add, Int.natCast_one]
        omega
end
end Go.Proofs.YtkanbbfddlhlcaaGreatDoor.V

/- Reading sheets: the reference's numbers and words: the walks. -/
namespace Go.Proofs.YtkanbbfddlhlcaaGreatDoor.V
theorem valD_take {s : List UInt8} {q : Nat} (h : q < s.length) : valD (s.take (q + 1)) = 10 * valD (s.take q) + ((s.getD q 0).toNat - 48) := by
  rw [List.take_succ, List.getElem?_eq_getElem h, List.getD_eq_getElem?_getD, List.getElem?_eq_getElem h]
  exact valD_snoc _ _
theorem valD_lt : ∀ (s : List UInt8) (q : Nat), q ≤ s.length → (s.take q).all isDig = true → valD (s.take q) < 10 ^ q
  | s, 0, _, _ => by simp [valD]
  | s, q + 1, h, hd => by
    have e : s.take (q + 1) = s.take q ++ [s.getD q 0] := by
      rw [List.take_succ, List.getElem?_eq_getElem (by omega), List.getD_eq_getElem?_getD, List.getElem?_eq_getElem (by omega)]; rfl
    have hd2 := hd
    rw [e, List.all_append, Bool.and_eq_true] at hd2
    have ih := valD_lt s q (by omega) hd2.1
    have hb : 48 ≤ (s.getD q 0).toNat ∧ (s.getD q 0).toNat ≤ 57 := by simpa [isDig] using hd2.2
    rw [valD_take (by omega), Nat.pow_succ]
    omega
theorem pow10_9 {q : Nat} (h : q ≤ 9) : 10 ^ q ≤ 1000000000 := by
  have := Nat.pow_le_pow_right (n := 10) (by omega) h
  simpa using this
section
variable (cx : Cx) (h : List (Nat × Seg)) (n : Nat)
set_option maxRecDepth 20000 in
theorem number_Q (s : List UInt8) (hs : s.length ≤ 100000000) : CallQ Tryz.prog cx 33 [.str (S8 s)] h n (.tup 2 (cl [.int .i64 (((numO s).getD 0 : Nat) : Int), .bool (numO s).isSome])) := by
  have hsz : (S8 s).size = s.length := S8_size s
  have hS8 : ∀ a b : List UInt8, (S8 a = S8 b) = (a = b) := fun a b => propext ⟨fun e => by have := congrArg (fun x : ByteArray => x.data.toList) e; simpa [S8_list] using this, fun e => by rw [e]⟩
  have e0 : (⟨#[]⟩ : ByteArray) = S8 [] := rfl
  refine callQ_of_T (P := Tryz.prog) hti (nt := 48) (rs := [.tmp 2, .tmp 3]) rfl rfl Tryz.call33 Tryz.func33 rfl _ (by simp only [go_sem, and_self]) (Nat.le_of_ble_eq_true rfl) _ (by first | exact trivial | (refine lt_flat rfl ?_; simp [SV.flat]; done) | simp only [go_sem]) fun hok => ?_
  by_cases h1 : s = []
  · subst h1
    have e : numO [] = none := rfl
    simp only [go_sem, Nat.reduceLT, e0, hS8, e]
    try rfl
  by_cases h2 : 9 < s.length
  · have e : numO s = none := by unfold numO; rw [if_pos (.inr (.inl h2))]
    have h2T : ((9 : Int) < s.length) = True := eq_true (by omega)
    simp only [go_sem, Nat.reduceLT, e0, hS8, h1, e, hsz, h2T]
    try rfl
  have h2F : ((9 : Int) < s.length) = False := eq_false (by omega)
  have hpos := List.length_pos_iff.2 h1
  have hb0 := bt_S8 s 0 hpos
  have hl0 : (0 : Int) < s.length := by omega
  have hhead : s.head? = some (s.getD 0 0) := by
    cases s with
    | nil => exact absurd rfl h1
    | cons a l => rfl
  by_cases h3 : s.getD 0 0 = 48 ∧ 1 < s.length
  · have e : numO s = none := by unfold numO; rw [if_pos (.inr (.inr ⟨by rw [hhead, h3.1], h3.2⟩))]
    have h3T : (((s.getD 0 0).toNat : Int) = 48) = True := eq_true (by rw [h3.1]; rfl)
    have h4T : ((1 : Int) < s.length) = True := eq_true (by omega)
    simp only [Int.ofNat_zero] at hb0
    simp only [go_sem, Nat.reduceLT, Int.reduceLE, e0, hS8, h1, e, hsz, h2F, hb0, hl0, h3T, h4T]
    try rfl
  have hnum : numO s = if s.all isDig then some (valD s) else none := by
    unfold numO
    rw [if_neg]
    rintro (e | e | ⟨e, e2⟩)
    · exact h1 e
    · exact h2 e
    · rw [hhead] at e
      exact h3 ⟨Option.some.inj e, e2⟩
  simp only [Int.ofNat_zero] at hb0
  by_cases h5 : s.getD 0 0 = 48
  all_goals first
    | (have h3T : (((s.getD 0 0).toNat : Int) = 48) = True := eq_true (by rw [h5]; rfl)
       have h4F : ((1 : Int) < s.length) = False := eq_false fun e => h3 ⟨h5, by omega⟩
       simp only [go_sem, Nat.reduceLT, Int.reduceLE, e0, hS8, h1, hsz, h2F, hb0, hl0, h3T, h4F])
    | (have h3F : (((s.getD 0 0).toNat : Int) = 48) = False := eq_false fun e => h5 (UInt8.toNat_inj.1 (by have : (48 : UInt8).toNat = 48 := rfl; omega))
       simp only [go_sem, Nat.reduceLT, Int.reduceLE, e0, hS8, h1, hsz, h2F, hb0, hl0, h3F])
  all_goals
    refine T_lp (ι := { q : Nat // q ≤ s.length ∧ (s.take q).all isDig = true }) (fun q => ([(0, .str (S8 s)), (4, .int .i64 ((valD (s.take q.1) : Nat) : Int)), (5, .int .i64 q.1)], h, n)) (fun q => s.length - q.1) ⟨0, Nat.zero_le _, rfl⟩ ?_ ?_
    · refine Imp.id (by simp) ?_ (impH.base0 hok (by simp) HExt.rfl)
      simp only [go_sem, Nat.reduceLT]
      try rfl
    rintro ⟨q, hq, hd⟩
    have hvb := valD_lt s q hq hd
    have hp9 := pow10_9 (q := q) (by omega)
    simp only [go_sem, Nat.reduceLT, hsz, decide_eq_true_eq, decide_eq_false_iff_not]
    refine ⟨fun hq1 => ?_, fun hq1 => ?_⟩
    rotate_left
    · have eq1 : q = s.length := by omega
      subst eq1
      rw [List.take_length] at hd
      have e : numO s = some (valD s) := by rw [hnum, if_pos hd]
      simp only [go_sem, List.take_length, e, Option.getD_some, Option.isSome_some]
      try rfl
    have hql : q < s.length := by omega
    have hbq := bt_S8 s q hql
    have r1 : (0 : Int) ≤ q ∧ (q : Int) < s.length := ⟨by omega, by omega⟩
    have hvt := valD_take hql
    have hte : (s.take (q + 1)).all isDig = isDig (s.getD q 0) := by
      have e : s.take (q + 1) = s.take q ++ [s.getD q 0] := by
        rw [List.take_succ, List.getElem?_eq_getElem hql, List.getD_eq_getElem?_getD, List.getElem?_eq_getElem hql]; rfl
      rw [e, List.all_append, hd]; simp
    have hbad : isDig (s.getD q 0) = false → numO s = none := fun e => by
      rw [hnum, if_neg]
      intro ha
      rw [List.all_eq_true] at ha
      have := ha (s.getD q 0) (by rw [← getE_D s 0 hql]; exact List.getElem_mem _)
      rw [e] at this; cases this
    generalize hb : s.getD q 0 = b at *
    have hb8 : b.toNat < 256 := b.toNat_lt
    by_cases hlo : b.toNat < 48
    · have e := hbad (by unfold isDig; rw [decide_eq_false]; omega)
      have hloT : ((b.toNat : Int) < 48) = True := eq_true (by omega)
      simp only [go_sem, hsz, hbq, r1, hloT, e]
      exact ⟨fun hz => absurd trivial hz, rfl⟩
    have hloF : ((b.toNat : Int) < 48) = False := eq_false (by omega)
    by_cases hhi : 57 < b.toNat
    · have e := hbad (by unfold isDig; rw [decide_eq_false]; omega)
      have hhiT : ((57 : Int) < (b.toNat : Int)) = True := eq_true (by omega)
      simp only [go_sem, hsz, hbq, r1, hloF, hhiT, e]
      exact ⟨rfl, fun hz => absurd trivial hz⟩
    have hhiF : ((57 : Int) < (b.toNat : Int)) = False := eq_false (by omega)
    have hdq : isDig b = true := by unfold isDig; rw [decide_eq_true]; omega
    simp only [go_sem, hsz, hbq, r1, hloF, hhiF, wu8 (n := (b.toNat : Int) - 48) (by omega), w64 (n := (b.toNat : Int) - 48) (by omega), w64 (n := 10 * ((valD (s.take q) : Nat) : Int)) (by omega), w64 (n := 10 * ((valD (s.take q) : Nat) : Int) + ((b.toNat : Int) - 48)) (by omega)]
    refine ⟨⟨q + 1, by omega, by rw [hte]; exact hdq⟩, by show s.length - (q + 1) < s.length - q; omega, ?_⟩
    refine Imp.id (by simp) ?_ (impH.base0 hok (by simp) HExt.rfl)
    have hvt2 : ((valD (s.take (q + 1)) : Nat) : Int) = 10 * ((valD (s.take q) : Nat) : Int) + ((b.toNat : Int) - 48) := by rw [hvt]; omega
    simp only [go_sem, Nat.reduceLT, hvt2, w64 (n := (q : Int) + 1) (by omega), Int.natCast_add, Int.natCast_one]
    try rfl
end
end Go.Proofs.YtkanbbfddlhlcaaGreatDoor.V

/- Reading sheets: the reference's words: the walk. -/
namespace Go.Proofs.YtkanbbfddlhlcaaGreatDoor.V
/-- A cell is given what its word tells. -/
def putV (S : Sh) (y x : Int) : Option (Nat × Nat × Nat × Nat) → Sh
  | none => S.setWax y (bitsI .or .u8 (S.wax y) (shlI .u8 1 x))
  | some (m, p, q, r) => ((((S.setWet y x m).setDye y x 0 p).setDye y x 1 q).setDye y x 2 r)
def putN (S : Sh) (y x : Int) (D : List (List UInt8)) : Nat → Sh
  | 0 => S
  | k + 1 => (putN S y x D k).setDye y x k (((numO (D.getD k [])).getD 0 : Nat) : Int)
def okN (d : List UInt8) : Prop := ∃ m, numO d = some m ∧ m ≤ 1000
theorem pwO_len {w : List UInt8} (h1 : w ≠ [119]) (h : (spl 58 w).length ≠ 2) : pwO w = none := by
  unfold pwO
  rw [if_neg h1]
  split
  · rename_i a b e; rw [e] at h; exact absurd rfl h
  · rfl
theorem pwO_num {w a b : List UInt8} (h1 : w ≠ [119]) (h : spl 58 w = [a, b]) (h2 : ∀ m, numO a = some m → 200 < m) : pwO w = none := by
  unfold pwO
  rw [if_neg h1, h]
  simp only
  split
  · split
    · rename_i m p q r e1 _ _ _
      rw [if_neg]
      intro e
      have := h2 _ e1
      omega
    · rfl
  · rfl
theorem pwO_len2 {w a b : List UInt8} (h1 : w ≠ [119]) (h : spl 58 w = [a, b]) (h2 : (spl 44 b).length ≠ 3) : pwO w = none := by
  unfold pwO
  rw [if_neg h1, h]
  simp only
  split
  · rename_i x y z e; rw [e] at h2; exact absurd rfl h2
  · rfl
theorem pwO_bad {w a b : List UInt8} {D : List (List UInt8)} (h1 : w ≠ [119]) (h : spl 58 w = [a, b]) (hD : spl 44 b = D) (hl : D.length = 3) {k : Nat} (hk : k < 3) (h2 : ¬ okN (D.getD k [])) : pwO w = none := by
  subst hD
  unfold pwO
  rw [if_neg h1, h]
  simp only
  split
  · rename_i x y z e
    rw [e] at h2
    split
    · rename_i m p q r e1 e2 e3 e4
      rw [if_neg]
      rintro ⟨_, l1, l2, l3⟩
      match k with
      | 0 => exact h2 ⟨p, e2, l1⟩
      | 1 => exact h2 ⟨q, e3, l2⟩
      | 2 => exact h2 ⟨r, e4, l3⟩
      | k + 3 => omega
    · rfl
  · rfl
theorem pwO_good {w a b : List UInt8} {D : List (List UInt8)} {m : Nat} (h1 : w ≠ [119]) (h : spl 58 w = [a, b]) (hD : spl 44 b = D) (hl : D.length = 3) (hm : numO a = some m) (hm2 : m ≤ 200) (h2 : ∀ k, k < 3 → okN (D.getD k [])) :
    pwO w = some (some (m, (numO (D.getD 0 [])).getD 0, (numO (D.getD 1 [])).getD 0, (numO (D.getD 2 [])).getD 0)) := by
  subst hD
  obtain ⟨p, e0, l0⟩ := h2 0 (by omega)
  obtain ⟨q, e1, l1⟩ := h2 1 (by omega)
  obtain ⟨r, e2, l2⟩ := h2 2 (by omega)
  rw [e0, e1, e2]
  unfold pwO
  rw [if_neg h1, h]
  simp only
  split
  · rename_i x y z e
    rw [e] at e0 e1 e2
    have e0 : numO x = some p := e0
    have e1 : numO y = some q := e1
    have e2 : numO z = some r := e2
    rw [hm, e0, e1, e2]
    simp only
    rw [if_pos ⟨hm2, l0, l1, l2⟩]
    rfl
  · rename_i hne
    exfalso
    generalize hD : spl 44 b = D at *
    match D, hl with
    | [x, y, z], _ => exact hne x y z rfl
section
variable (cx : Cx) (h : List (Nat × Seg)) (n : Nat)
set_option maxRecDepth 20000 in
theorem read1_E (i : Nat) (S : Sh) (x y : Int) (w : List UInt8) (hs : hget h i = some (shS S)) (hi : i < n) (hR : ShR S) (hx : 0 ≤ x ∧ x < 8) (hy : 0 ≤ y ∧ y < 8) (hw9 : w.length ≤ 1100000) (K : HK)
    (hK : ∀ b S' h' n', n ≤ n' → HOk n' h' → HBut i n h h' → hget h' i = some (shS S') → ((b = false ∧ pwO w = none) ∨ (b = true ∧ ∃ v, pwO w = some v ∧ S' = putV S y x v)) → K (.bool b) h' n') :
    CallE Tryz.prog cx 17 [.ptr i 0, spot x y, .str (S8 w)] h n K := by
  have e119 : (⟨#[119]⟩ : ByteArray) = S8 [119] := rfl
  have e58 : (58 : Int) = (((58 : UInt8).toNat : Nat) : Int) := rfl
  have e44 : (44 : Int) = (((44 : UInt8).toNat : Nat) : Int) := rfl
  have hS8 : ∀ a b : List UInt8, (S8 a = S8 b) = (a = b) := fun a b => propext ⟨fun e => by have := congrArg (fun x : ByteArray => x.data.toList) e; simpa [S8_list] using this, fun e => by rw [e]⟩
  have ux : IntKind.u64.wrap x = x := by simp [IntKind.wrap, IntKind.bits, IntKind.signed]; omega
  refine callE_of_T (P := Tryz.prog) hti (nt := 100) (rs := [.tmp 6]) rfl rfl Tryz.call17 Tryz.func17 rfl _ (by simp only [go_sem, and_self]) (Nat.le_of_ble_eq_true rfl) _ fun hok => ?_
  have okS : ∀ T : Sh, HOk (n + 1) ((n, ⟨2, cl [SV.int .i8 x, SV.int .i8 y], true, none⟩) :: hset h i (shS T)) := fun T j t hj => by
    simp only [hget] at hj
    split at hj
    · rename_i e; cases hj; exact ⟨by omega, fun k hk => (pair_flat _ _ hk).below _⟩
    · have := (hok.hset (i := i) fun k hk => (shC_flat T k).below n) j t hj
      exact ⟨by omega, fun k hk => SV.lt_mono (by omega) _ (this.2 k hk)⟩
  by_cases hww : w = [119]
  · have hp : pwO w = some none := by unfold pwO; rw [if_pos hww]
    have gS : ∀ t u, hget ((n, u) :: hset h i t) i = some t := fun t u => by simp only [hget]; rw [if_neg (by omega)]; exact hget_hset_self hs _
    have hi' : i < n + 1 := by omega
    simp only [go_sem, Nat.reduceLT, e119, hS8, hww, decide_true]
    refine T_drawT hti 15 _ _ (by kernel_rfl) (by kernel_rfl) ?_
    simp only [go_sem, Nat.reduceLT, Nat.reduceLeDiff, Nat.reduceEqDiff, reduceIte, reduceCtorEq, hs, hi, hi', hx, hy, ux]
    exact hK true _ _ _ (by omega) (okS (putV S y x none)) (fun z hz hzi t ht => by simp only [hget]; rw [if_neg (by omega), hget_hset, if_neg (by omega)]; exact ht) (gS _ _) (.inr ⟨rfl, none, hp, rfl⟩)
  · simp only [go_sem, Nat.reduceLT, e119, hS8, hww, decide_false]
    rw [e58]
    refine callA_false (split2_E _ _ _ w 58 (by omega) _ ?_)
    intro V h1 n1 hn1 x1 ok1 SV1
    have hno1 := @pwO_len w hww
    have hno2 := fun a b => @pwO_num w a b hww
    have hno3 := fun a b => @pwO_len2 w a b hww
    have hno4 := fun a b D => @pwO_bad w a b D hww
    have hyes := fun a b D m => @pwO_good w a b D m hww
    have hl9 : ∀ y, y < (spl 58 w).length → ((spl 58 w).getD y []).length ≤ w.length := fun y hy => by
      rw [← getE_D (spl 58 w) [] hy]; exact spl_lenle (List.getElem_mem _)
    have hLn := spl_len 58 w
    have hLc : w.count 58 ≤ w.length := List.count_le_length
    generalize hLL : spl 58 w = L at *
    obtain ⟨jv, capV, ⟨sn, sc, sr, so⟩, rfl, v1, v2, v3, v4, v5, v6, v7, v8, v9⟩ := SV1
    simp only at v4 v5 v6 v9
    subst v4 v5 v6
    have gi1 : hget h1 i = some (shS S) := x1 i (by omega) _ (by simp only [go_sem, hs, hi])
    have gn1 : hget h1 n = some ⟨2, cl [SV.int .i8 x, SV.int .i8 y], true, none⟩ := x1 n (by omega) _ (by simp only [go_sem])
    have xb1 : HBut i n h h1 := fun z hz hzi t ht => x1 z (by omega) _ (by simp only [hget]; rw [if_neg (by omega)]; exact ht)
    by_cases hl2 : L.length = 2
    rotate_left
    · have hl2F : ((L.length : Int) = 2) = False := eq_false (by omega)
      simp only [go_sem, Nat.reduceLT, hl2F]
      exact hK false S _ _ (by omega) ok1 xb1 gi1 (.inl ⟨rfl, hno1 hl2⟩)
    obtain ⟨a, b, rfl⟩ : ∃ a b, L = [a, b] := by
      match L, hl2 with
      | [a, b], _ => exact ⟨a, b, rfl⟩
    have hl2T : ((([a, b] : List (List UInt8)).length : Int) = 2) = True := eq_true rfl
    have c0 : sc 0 = .str (S8 a) := v9 0 (by simp)
    have c1 : sc 1 = .str (S8 b) := v9 1 (by simp)
    have la := hl9 0 (by simp)
    have lb := hl9 1 (by simp)
    have la : a.length ≤ w.length := la
    have lb : b.length ≤ w.length := lb
    have ll2 : ([a, b] : List (List UInt8)).length = 2 := rfl
    rw [ll2] at v3
    simp only [go_sem, Nat.reduceLT, Nat.reduceLeDiff, Int.reduceToNat, Int.reduceLE, Int.reduceLT, hl2T, ll2, v3, v2, c0, c1]
    refine (number_Q _ _ _ a (by omega)).A ?_
    simp only [go_sem, Nat.reduceLT, Int.reduceToNat, Int.reduceLE, Int.reduceLT, ll2, v3, v2, c0, c1]
    rw [e44]
    refine callA_false (split2_E _ _ _ b 44 (by omega) _ ?_)
    intro V2 h2 n2 hn2 x2 ok2 SV2
    have hl9b : ∀ y, y < (spl 44 b).length → ((spl 44 b).getD y []).length ≤ b.length := fun y hy => by
      rw [← getE_D (spl 44 b) [] hy]; exact spl_lenle (List.getElem_mem _)
    have hLn2 := spl_len 44 b
    have hLc2 : b.count 44 ≤ b.length := List.count_le_length
    have hno3 := hno3 a b rfl
    have hno4 := fun D => hno4 a b D rfl
    have hyes := fun D m => hyes a b D m rfl
    have hno2 := hno2 a b rfl
    generalize hDD : spl 44 b = D at *
    obtain ⟨jw, capW, ⟨tn, tc, tr, tow⟩, rfl, w1, w2, w3, w4, w5, w6, w7, w8', w9⟩ := SV2
    simp only at w4 w5 w6 w9
    subst w4 w5 w6
    have gi2 : hget h2 i = some (shS S) := x2 i (by omega) _ gi1
    have gn2 : hget h2 n = some ⟨2, cl [SV.int .i8 x, SV.int .i8 y], true, none⟩ := x2 n (by omega) _ gn1
    have xb2 : HBut i n h h2 := fun z hz hzi t ht => x2 z (by omega) _ (xb1 z hz hzi t ht)
    have hbad := fun hp => hK false S h2 n2 (by omega) ok2 xb2 gi2 (.inl ⟨rfl, hp⟩)
    cases hnum : numO a with
    | none =>
      simp only [go_sem, Nat.reduceLT, hnum, Option.isSome_none, Option.getD_none]
      exact hbad (hno2 fun m hm => by rw [hnum] at hm; cases hm)
    | some m =>
      by_cases hm2 : 200 < m
      · have hmT : ((200 : Int) < m) = True := eq_true (by omega)
        simp only [go_sem, Nat.reduceLT, hnum, Option.isSome_some, Option.getD_some, hmT]
        exact hbad (hno2 fun m' hm => by rw [hnum] at hm; cases hm; exact hm2)
      have hmF : ((200 : Int) < m) = False := eq_false (by omega)
      by_cases hl3 : D.length = 3
      rotate_left
      · have hl3F : ((D.length : Int) = 3) = False := eq_false (by omega)
        simp only [go_sem, Nat.reduceLT, hnum, Option.isSome_some, Option.getD_some, hmF, hl3F]
        exact hbad (hno3 hl3)
      have hl3T : ((D.length : Int) = 3) = True := eq_true (by omega)
      have hyesm := hyes D m rfl hl3 hnum (by omega)
      have hno5 := fun k => hno4 D rfl hl3 (k := k)
      have li : i < n2 := by omega
      have ln : n < n2 := by omega
      rw [hl3] at w3
      have c0 : tc 0 = .str (S8 (D.getD 0 [])) := w9 0 (by omega)
      simp only [go_sem, Nat.reduceLT, hnum, Option.isSome_some, Option.getD_some, hmF, hl3T]
      refine T_drawT hti 11 _ _ (by kernel_rfl) (by kernel_rfl) ?_
      simp only [go_sem, Nat.reduceLT, Nat.reduceLeDiff, Nat.reduceEqDiff, reduceIte, reduceCtorEq, gi2, gn2, li, ln, hx, hy, w16 (n := (m : Int)) (by omega)]
      have okT : ∀ T : Sh, HOk n2 (hset h2 i (shS T)) := fun T => ok2.hset fun k hk => (shC_flat T k).below n2
      refine T_lp (ι := { k : Nat // k ≤ 3 ∧ ∀ z, z < k → okN (D.getD z []) }) (fun k => ([(0, .ptr i 0), (4, .ptr n 0), (6, .bool false), (10, .sl jw 0 3 capW), (11, .int .i64 k.1)], hset h2 i (shS (putN (S.setWet y x m) y x D k.1)), n2)) (fun k => 3 - k.1) ⟨0, Nat.zero_le _, fun z hz => absurd hz (Nat.not_lt_zero z)⟩ ?_ ?_
      · refine Imp.id (by show n ≤ n2; omega) ?_ (impH.base0 (okT (S.setWet y x m)) (Nat.le_refl _) HExt.rfl)
        simp only [go_sem, Nat.reduceLT, hl3]
        exact ⟨li, ln, w2⟩
      rintro ⟨k, hk, hall⟩
      have gw : ∀ t, hget (hset h2 i t) jw = some ⟨3, tc, true, some (9, capW)⟩ := fun t => by rw [hget_hset, if_neg (by omega)]; exact w3
      have gn : ∀ t, hget (hset h2 i t) n = some ⟨2, cl [SV.int .i8 x, SV.int .i8 y], true, none⟩ := fun t => by rw [hget_hset, if_neg (by omega)]; exact gn2
      have gi : ∀ t, hget (hset h2 i t) i = some t := hget_hset_self gi2
      have g5 : ∀ t u, hset (hset h2 i t) i u = hset h2 i u := fun t u => hset_hset _ _ _ _
      have xb3 : ∀ t, HBut i n h (hset h2 i t) := fun t z hz hzi u hu => by rw [hget_hset, if_neg (Ne.symm hzi)]; exact xb2 z hz hzi u hu
      simp only [go_sem, Nat.reduceLT, decide_eq_true_eq, decide_eq_false_iff_not]
      refine ⟨fun hk1 => ?_, fun hk1 => ?_⟩
      rotate_left
      · have ek : k = 3 := by omega
        subst ek
        exact hK true _ _ _ (by omega) (okT (putN (S.setWet y x m) y x D 3)) (xb3 _) (gi _) (.inr ⟨rfl, _, hyesm hall, rfl⟩)
      have hk3 : k < 3 := by omega
      have r1 : (0 : Int) ≤ k ∧ (k : Int) < 3 := ⟨by omega, by omega⟩
      have r2 : k ≤ 2 := by omega
      have r3 : k + 1 ≤ 3 := by omega
      have ck : tc k = .str (S8 (D.getD k [])) := w9 k (by omega)
      have ldk := hl9b k (by omega)
      simp only [go_sem, Nat.reduceLT, r1, r2, r3, gw, w2, ck]
      refine (number_Q _ _ _ (D.getD k []) (by omega)).A ?_
      have hbad3 := fun hp => hK false _ _ n2 (by omega) (okT (putN (S.setWet y x m) y x D k)) (xb3 _) (gi _) (.inl ⟨rfl, hp⟩)
      cases hnk : numO (D.getD k []) with
      | none =>
        simp only [go_sem, Nat.reduceLT, hnk, Option.isSome_none, Option.getD_none]
        exact hbad3 (hno5 k hk3 fun ⟨m', e, _⟩ => by rw [hnk] at e; cases e)
      | some p =>
        by_cases hp2 : 1000 < p
        · have hpT : ((1000 : Int) < p) = True := eq_true (by omega)
          simp only [go_sem, Nat.reduceLT, hnk, Option.isSome_some, Option.getD_some, hpT]
          exact hbad3 (hno5 k hk3 fun ⟨m', e, e2⟩ => by rw [hnk] at e; cases e; omega)
        have hpF : ((1000 : Int) < p) = False := eq_false (by omega)
        have hpd : putN (S.setWet y x m) y x D (k + 1) = (putN (S.setWet y x m) y x D k).setDye y x k p := by rw [putN, hnk]; rfl
        have hup : upd (shC (putN (S.setWet y x m) y x D k)) (66 + y.toNat * 24 + x.toNat * 3 + k) (.int .i16 p) = shC (putN (S.setWet y x m) y x D (k + 1)) := by
          rw [shC_setDyeN _ _ _ _ k hy.1 hy.2 hx.1 hx.2 hk3, hpd]
        simp only [go_sem, Nat.reduceLT, hnk, Option.isSome_some, Option.getD_some, hpF]
        refine T_drawT hti 13 _ _ (by kernel_rfl) (by kernel_rfl) ?_
        simp only [go_sem, Nat.reduceLT, Nat.reduceLeDiff, Nat.reduceEqDiff, reduceIte, reduceCtorEq, gi, gn, li, ln, hx, hy, r1, w16 (n := (p : Int)) (by omega), hup, g5]
        refine ⟨by omega, ⟨k + 1, by omega, fun z hz => ?_⟩, by show 3 - (k + 1) < 3 - k; omega, ?_⟩
        · by_cases e : z = k
          · subst e; exact ⟨p, hnk, by omega⟩
          · exact hall z (by omega)
        · refine Imp.id (by show n ≤ n2; omega) ?_ (impH.base0 (okT _) (Nat.le_refl _) HExt.rfl)
          simp only [go_sem, Nat.reduceLT, w64 (n := (k : Int) + 1) (by omega), Int.natCast_add, Int.natCast_one]
          exact ⟨li, ln, w2⟩
end
end Go.Proofs.YtkanbbfddlhlcaaGreatDoor.V

/- Reading sheets: the reference's code: the walk. -/
namespace Go.Proofs.YtkanbbfddlhlcaaGreatDoor.V
/-- The words of the reference's lines. -/
def wdR (L : List (List UInt8)) (W k : Nat) : List UInt8 := (spl 32 (L.getD (k / W) [])).getD (k % W) []
theorem wdR_T (s : List UInt8) (W : Nat) : wdR (spl 10 s) W = wdT s W := rfl
/-- One more cell. -/
theorem ReadI.putV {W H q : Nat} {S : Sh} {wd : Nat → List UInt8} (h : ReadI W H q (cvW wd) S) (hW : 1 ≤ W ∧ W ≤ 8) (hH : H ≤ 8) (hq : q < H * W) {v : Option (Nat × Nat × Nat × Nat)} (hp : pwO (wd q) = some v) :
    ReadI W H (q + 1) (cvW wd) (putV S ((q / W : Nat) : Int) ((q % W : Nat) : Int) v) := by
  rcases word_pwO hp with ⟨e1, rfl⟩ | ⟨m, p, u, r, rfl, e2, e3⟩
  · exact h.setWax hW hH hq (by unfold cvW; rw [hp])
  · exact h.setVal hW hH hq (by unfold cvW; rw [hp]) (by omega) (by omega) (by omega) (by omega)
theorem setWide_same {S : Sh} {v : Int} (h : S.wide = v) : ({ S with wide := v } : Sh) = S := by cases S; subst h; rfl
/-- The first y rows are words of cells, as many in each. -/
def RowsOk (L : List (List UInt8)) (W y : Nat) : Prop := ∀ z, z < y → (spl 32 (L.getD z [])).length = W ∧ ∀ x, x < W → pwO ((spl 32 (L.getD z [])).getD x []) ≠ none
section
variable (cx : Cx) (h : List (Nat × Seg)) (n : Nat)
set_option maxRecDepth 20000 in
theorem readSheet2_Q (s : List UInt8) (S : Sh) (c : Int) (hI : RsIs s S c) (hs9 : s.length ≤ 1100000) :
    CallQ Tryz.prog cx 10 [.str (S8 s)] h n (.tup 2 (cl [.agg 266 (shC S), .int .i64 c])) := by
  have e0 : (⟨#[]⟩ : ByteArray) = S8 [] := rfl
  have e10 : (10 : Int) = (((10 : UInt8).toNat : Nat) : Int) := rfl
  have e32 : (32 : Int) = (((32 : UInt8).toNat : Nat) : Int) := rfl
  have hS8 : ∀ a b : List UInt8, (S8 a = S8 b) = (a = b) := fun a b => propext ⟨fun e => by have := congrArg (fun x : ByteArray => x.data.toList) e; simpa [S8_list] using this, fun e => by rw [e]⟩
  have hno : ¬ (∃ Q, Valid Q ∧ ShR Q ∧ s = textS Q) → S = sh0 ∧ c = 5 := fun hq => by
    rcases hI with ⟨_, h1, h2, h3⟩ | ⟨rfl, rfl, _⟩
    · exact absurd ⟨S, h1, h2, h3⟩ hq
    · exact ⟨rfl, rfl⟩
  refine CallE.toQ (rs_lt S c n) fun K hK => ?_
  refine CallE.imp0 (K := fun r h' n' => n ≤ n' ∧ HExt n h h' ∧ ∃ Q : Sh, (∀ j, j < 266 → shC Q j = shC S j) ∧ r = .tup 2 (cl [.agg 266 (shC Q), .int .i64 c])) ?_ ?_
  rotate_left
  · rintro hok r h' n' ⟨g0, hx, Q, hQ, rfl⟩
    exact ⟨.tup 2 (cl [.agg 266 (shC Q), .int .i64 c]), h, n, Nat.le_refl n, by simp only [ren_nil], rs_lt Q c n, impH.base0 hok (Nat.le_refl n) hx, hK _ (rs_den c hQ)⟩
  refine callE_of_T (P := Tryz.prog) hti (nt := 81) (rs := [.cell 2 40, .tmp 3]) rfl rfl Tryz.call10 Tryz.func10 rfl _ (by simp only [go_sem, and_self]) (Nat.le_of_ble_eq_true rfl) _ fun hok => ?_
  simp only [go_sem, Nat.reduceLT, Nat.reduceEqDiff, reduceIte]
  rw [e10]
  refine callA_false (split2_E _ _ _ s 10 (by omega) _ ?_)
  intro V h1 n1 hn1 hx1 ok1 SV1
  have hof : ∀ Q, Valid Q → ShR Q → s = textS Q → _ := fun Q q1 q2 q3 => valid_read (s := s) q1 q2 q3
  have hbk := fun (W H : Nat) (S : Sh) => @textS_of W H S s
  have hLn := List.length_pos_iff.2 (spl_ne 10 s)
  have hL9 := spl_len 10 s
  have hcnt : s.count 10 ≤ s.length := List.count_le_length
  have hl9 : ∀ y, ((spl 10 s).getD y []).length ≤ s.length := fun y => by
    rw [List.getD_eq_getElem?_getD]
    cases hy : (spl 10 s)[y]? with
    | none => simp
    | some a => exact spl_lenle (List.mem_of_getElem? hy)
  have hwT := wdR_T s
  generalize hLL : spl 10 s = L at *
  obtain ⟨jv, capV, ⟨sn, sc, sr, so⟩, rfl, v1, v2, v3, v4, v5, v6, v7, v8, v9⟩ := SV1
  simp only at v4 v5 v6 v9
  subst v4 v5 v6
  have hxn : HExt n h h1 := HExt.tr (m' := n + 1) (by simp only [go_sem, HExt_cons]) hx1 (by omega)
  have g2 : hget h1 n = some (shS sh0) := hx1 n (by omega) _ (by simp only [go_sem])
  have hn2 : n < n1 := by omega
  obtain ⟨H, hH⟩ : ∃ H, L.length = H + 1 := ⟨L.length - 1, by omega⟩
  have hcH : sc H = .str (S8 (L.getD H [])) := v9 H (by omega)
  have wH : IntKind.i64.wrap ((L.length : Int) - 1) = (H : Int) := by rw [show (L.length : Int) - 1 = H by omega]; exact w64 (by omega)
  have b1 : (0 : Int) ≤ H ∧ (H : Int) < L.length := ⟨by omega, by omega⟩
  have b2 : H ≤ L.length - 1 := by omega
  have b3 : 1 ≤ L.length := by omega
  have b4 : H + 1 ≤ L.length := by omega
  have b6 : H < L.length := by omega
  have hsn2 : ∀ (t u : Seg) (m : Nat), n ≤ m → HExt n h ((m, u) :: hset h1 n t) := fun t u m hm z hz v hv => by simp only [hget]; rw [if_neg (by omega), hget_hset, if_neg (by omega)]; exact hxn z hz v hv
  have hsn1 : ∀ (t : Seg), HExt n h (hset h1 n t) := fun t z hz v hv => by rw [hget_hset, if_neg (by omega)]; exact hxn z hz v hv
  have hgn : ∀ t, hget (hset h1 n t) n = some t := hget_hset_self g2
  by_cases hg1 : L.getD H [] = []
  rotate_left
  · have hbad : ¬ ∃ Q, Valid Q ∧ ShR Q ∧ s = textS Q := by
      rintro ⟨Q, q1, q2, q3⟩
      obtain ⟨W', H', a1, a2, a3, a4, a5, a6, a7, a8⟩ := hof Q q1 q2 q3
      have : H' = H := by omega
      subst this
      exact hg1 a6
    obtain ⟨rfl, rfl⟩ := hno hbad
    simp only [go_sem, Nat.reduceLT, reduceIte, wH, v3, v2, b1, b2, b3, b4, b6, hcH, e0, hS8, hg1, g2, hn2, hgn]
    exact ⟨by omega, hsn1 _, sh0, fun _ _ => rfl, rfl⟩
  by_cases hg2 : 1 ≤ H ∧ H ≤ 8
  rotate_left
  · have hbad : ¬ ∃ Q, Valid Q ∧ ShR Q ∧ s = textS Q := by
      rintro ⟨Q, q1, q2, q3⟩
      obtain ⟨W', H', a1, a2, a3, a4, a5, a6, a7, a8⟩ := hof Q q1 q2 q3
      omega
    obtain ⟨rfl, rfl⟩ := hno hbad
    by_cases hg3 : H < 1
    · have hT : ((H : Int) < 1) = True := eq_true (by omega)
      simp only [go_sem, Nat.reduceLT, reduceIte, wH, v3, v2, b1, b2, b3, b4, b6, hcH, e0, hS8, hg1, hT, g2, hn2, hgn]
      exact ⟨by omega, hsn1 _, sh0, fun _ _ => rfl, rfl⟩
    · have hF : ((H : Int) < 1) = False := eq_false (by omega)
      have hT : ((8 : Int) < H) = True := eq_true (by omega)
      simp only [go_sem, Nat.reduceLT, reduceIte, wH, v3, v2, b1, b2, b3, b4, b6, hcH, e0, hS8, hg1, hF, hT, g2, hn2, hgn]
      exact ⟨by omega, hsn1 _, sh0, fun _ _ => rfl, rfl⟩
  have hF1 : ((H : Int) < 1) = False := eq_false (by omega)
  have hF8 : ((8 : Int) < H) = False := eq_false (by omega)
  obtain ⟨W, hW⟩ : ∃ W, (spl 32 (L.getD 0 [])).length = W := ⟨_, rfl⟩
  have hall : (∃ Q, Valid Q ∧ ShR Q ∧ s = textS Q) → W ≤ 8 ∧ RowsOk L W H := by
    rintro ⟨Q, q1, q2, q3⟩
    obtain ⟨W', H', a1, a2, a3, a4, a5, a6, a7, a8, a9, _⟩ := hof Q q1 q2 q3
    have eH : H' = H := by omega
    subst eH
    have eW : W' = W := by rw [← hW, (a8 0 (by omega)).2]
    subst eW
    refine ⟨a1.2, fun z hz => ⟨(a8 z hz).2, fun x hx => ?_⟩⟩
    have hk := kOf hx hz
    have := a9 _ hk.1
    unfold wdT at this
    rw [hk.2.1, hk.2.2, hLL] at this
    exact this
  have hW1 : 1 ≤ W := by rw [← hW]; exact List.length_pos_iff.2 (spl_ne 32 _)
  simp only [go_sem, Nat.reduceLT, Nat.reduceLeDiff, Nat.reduceEqDiff, reduceIte, wH, v3, v2, b1, b2, b3, b4, b6, hcH, e0, hS8, hg1, hF1, hF8, w8 (n := (H : Int)) (by omega)]
  have hsh : ({ wide := sh0.wide, high := (H : Int), wet := sh0.wet, dye := sh0.dye, wax := sh0.wax } : Sh) = shWH 0 H := rfl
  rw [hsh]
  have o1 : HOk (n1 + 1) ((n1, shS (shWH 0 H)) :: h1) := fun i t hi => by
    simp only [hget] at hi
    split at hi
    · rename_i e; cases hi; exact ⟨by omega, fun k hk => (shC_flat _ k).below _⟩
    · exact ⟨by have := (ok1 i t hi).1; omega, fun k hk => SV.lt_mono (by omega) _ ((ok1 i t hi).2 k hk)⟩
  refine T_lp (ι := { q : Nat × List (Nat × Seg) × Nat × Sh // q.1 ≤ H ∧ n1 + 1 ≤ q.2.2.1 ∧ HOk q.2.2.1 q.2.1 ∧ HExt n1 h1 q.2.1 ∧ hget q.2.1 n1 = some (shS q.2.2.2) ∧ RowsOk L W q.1 ∧ ((q.1 = 0 ∧ q.2.2.2 = shWH 0 H) ∨ (0 < q.1 ∧ W ≤ 8 ∧ ReadI W H (q.1 * W) (cvW (wdR L W)) q.2.2.2)) })
    (fun q => ([(0, .str (S8 s)), (2, .ptr n 0), (3, .int .i64 0), (4, .sl jv 0 L.length capV), (5, .int .i64 H), (6, .ptr n1 0), (7, .int .i64 q.1.1)], q.1.2.1, q.1.2.2.1)) (fun q => H - q.1.1)
    ⟨(0, _, n1 + 1, shWH 0 H), Nat.zero_le _, Nat.le_refl _, o1, by simp only [go_sem, HExt_cons], by simp only [go_sem], fun z hz => absurd hz (Nat.not_lt_zero z), .inl ⟨rfl, rfl⟩⟩ ?_ ?_
  · refine Imp.id (by show n ≤ n1 + 1; omega) ?_ (impH.base0 o1 (Nat.le_refl _) (by simp only [go_sem]))
    simp only [go_sem, Nat.reduceLT]
    exact ⟨by omega, by omega⟩
  rintro ⟨⟨y, hq, nq, T⟩, f1, f2, f3, f4, f5, f6, f7⟩
  simp only at f1 f2 f3 f4 f5 f6 f7
  have l1 : n1 < nq := by omega
  have l2 : n < nq := by omega
  have l3 : jv < nq := by omega
  have gq : hget hq n = some (shS sh0) := f4 n hn2 _ g2
  have vq : hget hq jv = some ⟨L.length, sc, true, some (9, capV)⟩ := f4 jv v2 _ v3
  simp only [go_sem, Nat.reduceLT, decide_eq_true_eq, decide_eq_false_iff_not]
  refine ⟨fun hy1 => ?_, fun hy1 => ?_⟩
  rotate_left
  · have ey : y = H := by omega
    subst ey
    rcases f7 with ⟨e, _⟩ | ⟨_, hW8, fR⟩
    · omega
    rw [hwT] at fR
    obtain ⟨tV, tW⟩ := fR.back ⟨hW1, hW8⟩ hg2 (fun k hk => by
      have hx := Nat.mod_lt k (show 0 < W by omega)
      have hy := (Nat.div_lt_iff_lt_mul (show 0 < W by omega)).2 hk
      unfold wdT
      rw [hLL]
      exact (f6 _ hy).2 _ hx)
    have hts : textS T = s := by
      refine hbk W y T hW1 fR.wide fR.high hH hg1 fun z hz => ⟨(f6 z hz).1, fun x hx => ?_⟩
      have hk := kOf hx hz
      rw [tW x z hx hz]
      unfold wdT
      rw [hk.2.1, hk.2.2, hLL]
    have hI2 : RsIs s T 0 := .inl ⟨rfl, tV, fR.R, hts.symm⟩
    obtain ⟨rfl, hpq⟩ := hI2.two hI
    have hgq : ∀ t, hget (hset hq n t) n = some t := hget_hset_self gq
    simp only [go_sem, Nat.reduceLT, reduceIte, f5, l1, gq, l2, hgq]
    exact ⟨by omega, fun z hz v hv => by rw [hget_hset, if_neg (by omega)]; exact f4 z (by omega) v (hxn z hz v hv), T, hpq, rfl⟩
  have hyH : y < H := by omega
  have hcy : sc y = .str (S8 (L.getD y [])) := v9 y (by omega)
  have r1 : (0 : Int) ≤ y ∧ (y : Int) < L.length := ⟨by omega, by omega⟩
  have r2 : y ≤ L.length - 1 := by omega
  have r4 : y + 1 ≤ L.length := by omega
  have r6 : y < L.length := by omega
  simp only [go_sem, Nat.reduceLT, r1, r2, r4, r6, b3, vq, l3, hcy]
  rw [e32]
  refine callA_false (split2_E _ _ _ (L.getD y []) 32 (by have := hl9 y; omega) _ ?_)
  intro V2 h2 n2 hn22 x2 ok2 SV2
  have hD0 : y = 0 → (spl 32 (L.getD y [])).length = W := fun e => by rw [e]; exact hW
  have hDl := spl_len 32 (L.getD y [])
  have hDc : (L.getD y []).count 32 ≤ (L.getD y []).length := List.count_le_length
  have hDg : ∀ x, ((spl 32 (L.getD y [])).getD x []).length ≤ (L.getD y []).length := fun x => by
    rw [List.getD_eq_getElem?_getD]
    cases hx : (spl 32 (L.getD y []))[x]? with
    | none => simp
    | some a => exact spl_lenle (List.mem_of_getElem? hx)
  have hly := hl9 y
  generalize hDD : spl 32 (L.getD y []) = D at *
  obtain ⟨jw, capW, ⟨tn, tc, tr, tow⟩, rfl, w1, w2, w3, w4, w5, w6, w7, w8', w9⟩ := SV2
  simp only at w4 w5 w6 w9
  subst w4 w5 w6
  have g52 : hget h2 n1 = some (shS T) := x2 n1 l1 _ f5
  have gq2 : hget h2 n = some (shS sh0) := x2 n l2 _ gq
  have l12 : n1 < n2 := by omega
  have l22 : n < n2 := by omega
  have hgq2 : ∀ t, hget (hset h2 n t) n = some t := hget_hset_self gq2
  have xfail : ∀ t, HExt n h (hset h2 n t) := fun t z hz v hv => by rw [hget_hset, if_neg (by omega)]; exact x2 z (by omega) v (f4 z (by omega) v (hxn z hz v hv))
  have hbad : (D.length ≠ W ∨ 8 < D.length) → S = sh0 ∧ c = 5 := fun hd => hno fun e => by
    obtain ⟨e1, e2⟩ := hall e
    have := (e2 y hyH).1
    rw [hDD] at this
    omega
  by_cases h8 : 8 < D.length
  · obtain ⟨rfl, rfl⟩ := hbad (.inr h8)
    have h8T : ((8 : Int) < D.length) = True := eq_true (by omega)
    simp only [go_sem, Nat.reduceLT, reduceIte, h8T, gq2, l22, hgq2]
    exact ⟨by omega, xfail _, sh0, fun _ _ => rfl, rfl⟩
  have h8F : ((8 : Int) < D.length) = False := eq_false (by omega)
  by_cases hDW : D.length = W
  rotate_left
  · have hy0 : 0 < y := by
      rcases Nat.eq_zero_or_pos y with e | e
      · exact absurd (hD0 e) hDW
      · exact e
    obtain ⟨rfl, rfl⟩ := hbad (.inl hDW)
    rcases f7 with ⟨e, _⟩ | ⟨_, hW8, fR⟩
    · omega
    have hyT : ((0 : Int) < y) = True := eq_true (by omega)
    have hDF : ((D.length : Int) = (W : Int)) = False := eq_false (by omega)
    have hTW := fR.wide
    have iW := w64 (n := (W : Int)) (by omega)
    simp only [go_sem, Nat.reduceLT, Nat.reduceLeDiff, reduceIte, reduceCtorEq, h8F, hyT, g52, l12, hTW, iW, hDF, gq2, l22, hgq2]
    exact ⟨by omega, xfail _, sh0, fun _ _ => rfl, rfl⟩
  have hW8 : W ≤ 8 := by omega
  have hTT : ReadI W H (y * W + 0) (cvW (wdR L W)) { T with wide := (W : Int) } := by
    rcases f7 with ⟨e, e2⟩ | ⟨_, _, fR⟩
    · subst e e2
      rw [Nat.zero_mul]
      exact ReadI.zero _ hW8 hg2.2
    · rw [setWide_same fR.wide]; exact fR
  have hTW : y = 0 ∨ (0 < y ∧ T.wide = W) := by
    rcases f7 with ⟨e, e2⟩ | ⟨e, _, fR⟩
    · exact .inl e
    · exact .inr ⟨e, fR.wide⟩
  have iW := w64 (n := (W : Int)) (by omega)
  have iW8 := w8 (n := (W : Int)) (by omega)
  have g5b : ∀ t, hget (hset h2 n1 t) n1 = some t := hget_hset_self g52
  have okT : ∀ U : Sh, HOk n2 (hset h2 n1 (shS U)) := fun U => ok2.hset fun k hk => (shC_flat U k).below n2
  have xT : ∀ t, HExt n1 h1 (hset h2 n1 t) := fun t z hz v hv => by rw [hget_hset, if_neg (by omega)]; exact x2 z (by omega) v (f4 z hz v hv)
  rw [hDW] at w3 h8F
  have wT : ∀ t, hget (hset h2 n1 t) jw = some ⟨W, tc, true, some (9, capW)⟩ := fun t => by rw [hget_hset, if_neg (by omega)]; exact w3
  rcases hTW with hy0 | hTW
  all_goals first
    | (have hyF : ((0 : Int) < y) = False := eq_false (by omega)
       simp only [go_sem, Nat.reduceLT, Nat.reduceLeDiff, Nat.reduceEqDiff, reduceIte, reduceCtorEq, hDW, h8F, hyF, iW8, g52, l12])
    | (obtain ⟨hy0, hTW⟩ := hTW
       have hyT : ((0 : Int) < y) = True := eq_true (by omega)
       simp only [go_sem, Nat.reduceLT, Nat.reduceLeDiff, Nat.reduceEqDiff, reduceIte, reduceCtorEq, hDW, h8F, hyT, g52, l12, hTW, iW, iW8])
  all_goals
    obtain ⟨U0, hU0⟩ : ∃ U, (⟨(W : Int), T.high, T.wet, T.dye, T.wax⟩ : Sh) = U := ⟨_, rfl⟩
    rw [hU0] at hTT ⊢
    refine T_lp (ι := { q : Nat × List (Nat × Seg) × Nat × Sh // q.1 ≤ W ∧ n2 ≤ q.2.2.1 ∧ HOk q.2.2.1 q.2.1 ∧ HExt n1 h1 q.2.1 ∧ hget q.2.1 n1 = some (shS q.2.2.2) ∧ hget q.2.1 jw = some ⟨W, tc, true, some (9, capW)⟩ ∧ ReadI W H (y * W + q.1) (cvW (wdR L W)) q.2.2.2 ∧ ∀ x, x < q.1 → pwO (D.getD x []) ≠ none })
      (fun q => ([(0, .str (S8 s)), (2, .ptr n 0), (3, .int .i64 0), (4, .sl jv 0 L.length capV), (5, .int .i64 H), (6, .ptr n1 0), (7, .int .i64 y), (8, .sl jw 0 W capW), (9, .int .i64 q.1.1)], q.1.2.1, q.1.2.2.1)) (fun q => W - q.1.1)
      ⟨(0, _, n2, U0), Nat.zero_le _, Nat.le_refl _, okT U0, xT _, g5b _, wT _, hTT, fun z hz => absurd hz (Nat.not_lt_zero z)⟩ ?_ ?_
    · refine Imp.id (by show n ≤ n2; omega) ?_ (impH.base0 (okT U0) (Nat.le_refl _) HExt.rfl)
      simp only [go_sem, Nat.reduceLT]
      exact ⟨l22, by omega, l12, w2⟩
    rintro ⟨⟨x, hx, nx, U⟩, k1, k2, k3, k4, k5, k6, k7, k8⟩
    simp only at k1 k2 k3 k4 k5 k6 k7 k8
    have m1 : n1 < nx := by omega
    have m2 : n < nx := by omega
    have m3 : jw < nx := by omega
    have m4 : jv < nx := by omega
    simp only [go_sem, Nat.reduceLT, Nat.reduceLeDiff, decide_eq_true_eq, decide_eq_false_iff_not]
    refine ⟨fun hx1 => ?_, fun hx1 => ?_⟩
    rotate_left
    · have ex : x = W := by omega
      subst ex
      refine ⟨⟨(y + 1, hx, nx, U), by show y + 1 ≤ H; omega, by show n1 + 1 ≤ nx; omega, k3, k4, k5, fun z hz => ?_, .inr ⟨by show 0 < y + 1; omega, hW8, by show ReadI _ H ((y + 1) * _) _ U; rw [Nat.add_mul, Nat.one_mul]; exact k7⟩⟩, by show H - (y + 1) < H - y; omega, ?_⟩
      · by_cases e : z = y
        · subst e; rw [hDD]; exact ⟨hDW, fun x hx => k8 x hx⟩
        · exact f6 z (by omega)
      · refine Imp.id (by show n ≤ nx; omega) ?_ (impH.base0 k3 (Nat.le_refl _) HExt.rfl)
        simp only [go_sem, Nat.reduceLT, w64 (n := (y : Int) + 1) (by omega), Int.natCast_add, Int.natCast_one]
        exact ⟨m2, m4, m1⟩
    have hxW : x < W := by omega
    have r1 : (0 : Int) ≤ x ∧ (x : Int) < W := ⟨by omega, by omega⟩
    have r2 : x ≤ W - 1 := by omega
    have r4 : x + 1 ≤ W := by omega
    have ck : tc x = .str (S8 (D.getD x [])) := w9 x (by omega)
    have hDx := hDg x
    simp only [go_sem, Nat.reduceLT, r1, r2, r4, hW1, k6, m3, ck, w8 (n := (x : Int)) (by omega), w8 (n := (y : Int)) (by omega)]
    refine callA_false (read1_E _ hx nx n1 U x y (D.getD x []) k5 m1 k7.R (by omega) (by omega) (by omega) _ fun b U' h' n' p1 p2 p3 p4 p5 => ?_)
    have q4 : hget h' n = some (shS sh0) := p3 n (by omega) (by omega) _ (k4 n hn2 _ g2)
    have hgq4 : ∀ t, hget (hset h' n t) n = some t := hget_hset_self q4
    have q5 : n < n' := by omega
    rcases p5 with ⟨rfl, hp⟩ | ⟨rfl, v, hp, rfl⟩
    · obtain ⟨rfl, rfl⟩ := hno fun e => by
        obtain ⟨e1, e2⟩ := hall e
        have := (e2 y hyH).2 x hxW
        rw [hDD] at this
        exact this hp
      simp only [go_sem, Nat.reduceLT, reduceIte, q4, q5, hgq4]
      refine ⟨by omega, fun z hz v hv => ?_, sh0, fun _ _ => rfl, rfl⟩
      rw [hget_hset, if_neg (by omega)]
      exact p3 z (by omega) (by omega) v (k4 z (by omega) v (hxn z hz v hv))
    · simp only [go_sem, Nat.reduceLT]
      have hk := kOf hxW hyH
      have hwq : wdR L W (y * W + x) = D.getD x [] := by unfold wdR; rw [hk.2.1, hk.2.2, hDD]
      have hnew := k7.putV ⟨hW1, hW8⟩ hg2.2 hk.1 (v := v) (by rw [hwq]; exact hp)
      rw [hk.2.1, hk.2.2] at hnew
      refine ⟨⟨(x + 1, h', n', putV U y x v), by show x + 1 ≤ W; omega, by show n2 ≤ n'; omega, p2, fun z hz v hv => p3 z (by omega) (by omega) v (k4 z hz v hv), p4, p3 jw m3 (by omega) _ k6, hnew, fun z hz => ?_⟩, by show W - (x + 1) < W - x; omega, ?_⟩
      · by_cases e : z = x
        · subst e; rw [hp]; simp
        · exact k8 z (by omega)
      · refine Imp.id (by show n ≤ n'; omega) ?_ (impH.base0 p2 (Nat.le_refl _) HExt.rfl)
        simp only [go_sem, Nat.reduceLT, w64 (n := (x : Int) + 1) (by omega), Int.natCast_add, Int.natCast_one]
        exact ⟨by omega, by omega, by omega, by omega⟩
end
end Go.Proofs.YtkanbbfddlhlcaaGreatDoor.V

/- ReadSheet: the law: the walk. -/
namespace Go.Proofs.YtkanbbfddlhlcaaGreatDoor.V
theorem rsIs_ex (s : List UInt8) : ∃ S c, RsIs s S c := by
  rcases Classical.em (∃ Q, Valid Q ∧ ShR Q ∧ s = textS Q) with ⟨Q, h1, h2, h3⟩ | hq
  · exact ⟨Q, 0, .inl ⟨rfl, h1, h2, h3⟩⟩
  · exact ⟨sh0, 5, .inr ⟨rfl, rfl, hq⟩⟩
theorem sh0_R : ShR sh0 := ⟨by show -128 ≤ (0 : Int) ∧ (0 : Int) < 128; omega, by show -128 ≤ (0 : Int) ∧ (0 : Int) < 128; omega, fun _ _ => by show -32768 ≤ (0 : Int) ∧ (0 : Int) < 32768; omega, fun _ _ _ => by show -32768 ≤ (0 : Int) ∧ (0 : Int) < 32768; omega, fun _ => by show 0 ≤ (0 : Int) ∧ (0 : Int) < 256; omega⟩
theorem RsIs.R {s : List UInt8} {S : Sh} {c : Int} (h : RsIs s S c) : ShR S := by
  rcases h with ⟨_, _, h, _⟩ | ⟨_, rfl, _⟩
  · exact h
  · exact sh0_R
section
variable (cx : Cx) (h : List (Nat × Seg)) (n : Nat)
end
end Go.Proofs.YtkanbbfddlhlcaaGreatDoor.V

/- StackText: both codes and the law: the walks. -/
namespace Go.Proofs.YtkanbbfddlhlcaaGreatDoor.V
noncomputable def stText (L : List Sh) : List UInt8 := if stokB L then Lib.join (L.map textS) [10] else []
theorem stT_le (L : List Sh) (hV : ∀ q, q < L.length → Valid (L.getD q sh0)) (k : Nat) (hk : k ≤ L.length) : (Lib.join ((L.take k).map textS) [10]).length ≤ k * 100001 := by
  have := join_le [10] 100000 ((L.take k).map textS) (fun a ha => by
    obtain ⟨S, hS, rfl⟩ := List.mem_map.1 ha
    obtain ⟨q, hq, rfl⟩ := List.mem_iff_getElem.1 hS
    have hq' : q < L.length := by rw [List.length_take] at hq; omega
    have := hV q hq'
    rw [List.getD_eq_getElem?_getD, List.getElem?_eq_getElem hq'] at this
    rw [List.getElem_take]
    exact textS_len this)
  rw [List.length_map, List.length_take, Nat.min_eq_left hk] at this
  exact this
theorem take_snoc (L : List Sh) {k : Nat} (hk : k < L.length) : (L.take (k + 1)).map textS = (L.take k).map textS ++ [textS (L.getD k sh0)] := by
  rw [List.take_succ, List.getElem?_eq_getElem hk, List.map_append, List.getD_eq_getElem?_getD, List.getElem?_eq_getElem hk]; rfl
section
variable (cx : Cx) (h : List (Nat × Seg)) (n : Nat)
set_option maxRecDepth 10000 in
theorem stackText_Q (hT : TabOk cx) (A : SV) (L : List Sh) (hA : StArg h n A L) (hLR : StR L) (hm9 : L.length ≤ 10000000) : CallQ Tryz.prog cx 15 [A] h n (.str (S8 (stText L))) := by
  have e0 : (⟨#[]⟩ : ByteArray) = S8 [] := rfl
  have e10 : (⟨#[10]⟩ : ByteArray) = S8 [10] := rfl
  have hA0 := hA
  rcases hA with ⟨rfl, rfl⟩ | ⟨i, cap, s, rfl, hi, hs, hL⟩
  · have hst : stokB ([] : List Sh) = true := by simp [stokB, StOk]
    have e : stText [] = [] := by unfold stText; rw [hst]; rfl
    rw [e]
    refine callQ_of_T (P := Tryz.prog) hti (nt := 23) (rs := [.tmp 2]) rfl rfl Tryz.call15 Tryz.func15 rfl _ (by simp only [go_sem, and_self]) (Nat.le_of_ble_eq_true rfl) _ (by first | exact trivial | (refine lt_flat rfl ?_; simp [SV.flat]; done) | simp only [go_sem]) fun hok => ?_
    simp only [go_sem, Nat.reduceLT]
    refine (validStack_Q _ _ _ .nils [] hA0 hLR hm9).A ?_
    simp only [go_sem, Nat.reduceLT, hst]
    refine T_unroll 0 ?_
    simp only [go_sem, Nat.reduceLT, Int.reduceLT]
    rw [e10]
    refine (join_Q _ _ _ n 0 [] [10] _ (hget_hit _ _ _) (by omega) (Nat.zero_le _) (fun k hk => absurd hk (Nat.not_lt_zero k)) (Nat.zero_le _) (by simp) (by simp [Lib.join_nil])).A ?_
    simp only [go_sem, Nat.reduceLT, Lib.join_nil]
  · refine callQ_of_T (P := Tryz.prog) hti (nt := 23) (rs := [.tmp 2]) rfl rfl Tryz.call15 Tryz.func15 rfl _ (by simp only [go_sem, and_self]) (Nat.le_of_ble_eq_true rfl) _ (by first | exact trivial | (refine lt_flat rfl ?_; simp [SV.flat]; done) | simp only [go_sem]) fun hok => ?_
    simp only [go_sem, Nat.reduceLT]
    refine (validStack_Q _ _ _ _ L hA0 hLR hm9).A ?_
    by_cases hk : stokB L = true
    rotate_left
    · have e : stText L = [] := by unfold stText; rw [if_neg hk]
      have hk : stokB L = false := by simpa using hk
      rw [e, hk]
      simp only [go_sem, Nat.reduceLT, e0]
    have e : stText L = Lib.join (L.map textS) [10] := by unfold stText; rw [if_pos hk]
    have hokL : StOk L := by simpa [stokB] using hk
    have hl6 := hokL.1
    rw [e]
    simp only [go_sem, Nat.reduceLT, hk]
    generalize zrow _ = Z
    have ok1 : HOk (n + 1) ((n, ⟨0, Z, true, some (9, 0)⟩) :: h) := fun i t hi => by
      simp only [hget] at hi
      split at hi
      · rename_i e; cases hi
        exact ⟨by omega, fun k hk => absurd hk (Nat.not_lt_zero k)⟩
      · exact ⟨by have := (hok i t hi).1; omega, fun k hk => SV.lt_mono (by omega) _ ((hok i t hi).2 k hk)⟩
    have X1 : HExt n h ((n, ⟨0, Z, true, some (9, 0)⟩) :: h) := fun z hz t ht => by simp only [hget]; rw [if_neg (by omega)]; exact ht
    have S1 : StrO ((n, ⟨0, Z, true, some (9, 0)⟩) :: h) n (n + 1) (.sl n 0 0 0) [] := ⟨n, 0, _, rfl, Nat.le_refl _, by omega, hget_hit _ _ _, rfl, rfl, rfl, Nat.le_refl _, Nat.zero_le _, fun k hk => absurd hk (Nat.not_lt_zero k)⟩
    generalize ((n, (⟨0, Z, true, some (9, 0)⟩ : Seg)) :: h) = h1 at *
    refine T_lp (ι := { q : Nat × List (Nat × Seg) × Nat × SV // q.1 ≤ L.length ∧ n + 1 ≤ q.2.2.1 ∧ HOk q.2.2.1 q.2.1 ∧ HExt n h q.2.1 ∧ StrO q.2.1 n q.2.2.1 q.2.2.2 ((L.take q.1).map textS) })
      (fun q => ([(0, .sl i 0 L.length cap), (3, q.1.2.2.2), (10, .sl i 0 L.length cap), (11, .int .i64 L.length), (12, .int .i64 q.1.1)], q.1.2.1, q.1.2.2.1)) (fun q => L.length - q.1.1) ⟨(0, h1, n + 1, .sl n 0 0 0), Nat.zero_le _, Nat.le_refl _, ok1, X1, S1⟩ ?_ ?_
    · refine Imp.id (by show n ≤ n + 1; omega) ?_ (impH.base0 ok1 (Nat.le_refl _) HExt.rfl)
      simp only [go_sem, Nat.reduceLT]
      exact ⟨by omega, by omega⟩
    rintro ⟨⟨q, hq, nq, V⟩, hqL, hnq, okq, xq, Sq⟩
    simp only at hqL hnq okq xq Sq
    obtain ⟨jv, capV, ⟨sn, sc, sr, so⟩, rfl, v1, v2, v3, v4, v5, v6, v7, v8, v9⟩ := Sq
    simp only at v4 v5 v6 v9
    subst v4 v5 v6
    have hlq : ((L.take q).map textS).length = q := by rw [List.length_map, List.length_take]; omega
    have hsq := xq i hi _ hs
    have hiq : i < nq := by omega
    simp only [go_sem, Nat.reduceLT, decide_eq_true_eq, decide_eq_false_iff_not]
    refine ⟨fun hq1 => ?_, fun hq1 => ?_⟩
    rotate_left
    · have eq1 : q = L.length := by omega
      subst eq1
      have htl := stT_le L (fun q hq => (hokL.2 q hq).1) L.length (Nat.le_refl _)
      simp only [List.take_length] at htl v3 v7 v9 hlq
      rw [e10]
      have hj := join_Q ⟨cx.w0, cx.W, 23, n⟩ hq nq jv capV (L.map textS) [10] _ v3 v2 (Nat.le_refl _) v9 v7 (by omega) (by omega)
      simp only [List.take_length]
      refine hj.A ?_
      simp only [go_sem, Nat.reduceLT]
      exact xq
    have hql : q < L.length := by omega
    have hAq := hL.sh hLR hql
    have hV := (hokL.2 q hql).1
    have b1 : (0 : Int) ≤ q ∧ (q : Int) < L.length := ⟨by omega, by omega⟩
    have b2 : q * 266 ≤ s.n - 266 := by have := hAq.1; omega
    have b3 : 266 ≤ s.n := by have := hAq.1; omega
    have b4 : q * 266 + 266 ≤ s.n := hAq.1
    have b5 : q * 266 ≤ 4294967296 := by omega
    have hin : nq ≠ i := by omega
    simp only [go_sem, Nat.reduceLT, Nat.reduceEqDiff, reduceIte, hsq, hiq, b1, b2, b3, b4, b5, hin]
    have hfl : ∀ j, j < 266 → (s.c (q * 266 + j)).flat := fun j hj => by rw [hL.2 _ (by omega)]; exact stC_flat _ _
    have hF : ShAt ⟨266, fun j => s.c (q * 266 + j), true, none⟩ 0 (L.getD q sh0) := ⟨Nat.le_refl _, by
      have := hAq.2
      simpa using this⟩
    refine ⟨fun j hj => (hfl j hj).one, ?_⟩
    refine (text_Q _ _ _ (hT.sub _ _) nq 0 _ (L.getD q sh0) (hget_hit _ _ _) (by omega) hF hV).A ?_
    have okb : HOk (nq + 1) ((nq, ⟨266, fun j => s.c (q * 266 + j), true, none⟩) :: hq) := fun i t hi => by
      simp only [hget] at hi
      split at hi
      · rename_i e; cases hi
        exact ⟨by omega, fun k hk => (hfl k hk).below _⟩
      · exact ⟨by have := (okq i t hi).1; omega, fun k hk => SV.lt_mono (by omega) _ ((okq i t hi).2 k hk)⟩
    have xb : HExt n h ((nq, ⟨266, fun j => s.c (q * 266 + j), true, none⟩) :: hq) := fun z hz t ht => by simp only [hget]; rw [if_neg (by omega)]; exact xq z hz t ht
    have v3b : hget ((nq, ⟨266, fun j => s.c (q * 266 + j), true, none⟩) :: hq) jv = some ⟨((L.take q).map textS).length, sc, true, some (9, capV)⟩ := by simp only [hget]; rw [if_neg (by omega)]; exact v3
    have v2b : jv < nq + 1 := by omega
    have nv3 : nq + 1 ≠ jv := by omega
    have hts := take_snoc L hql
    have v1b : n ≤ jv := v1
    have v9b := v9
    have v7b := v7
    have v8b := v8
    generalize (L.take q).map textS = LL at *
    generalize ((nq, (⟨266, fun j => s.c (q * 266 + j), true, none⟩ : Seg)) :: hq) = hb at *
    simp only [go_sem, Nat.reduceLT, Nat.reduceLeDiff, v3b, v2b, nv3]
    refine ⟨⟨v7b, v8b, by omega⟩, fun cap' m1 m2 => ?_⟩
    generalize hC : upd (zrow _) 0 (SV.str (S8 (textS (L.getD q sh0)))) = C
    have hC0 : C 0 = .str (S8 (textS (L.getD q sh0))) := by rw [← hC]; rfl
    obtain ⟨okN, exN, spN⟩ := strApp1 (n := n) (h := h) (nq := nq + 1) (jv := jv) (A := LL) (a := textS (L.getD q sh0)) (sc := sc) (c1 := C) (w := some (9, 1)) (by omega) okb xb v1b hC0 v9b m1 m2
    refine ⟨⟨(q + 1, _, nq + 1 + 2, .sl (nq + 1 + 1) 0 (LL.length + 1) cap'), by show q + 1 ≤ L.length; omega, by show n + 1 ≤ nq + 1 + 2; omega, okN, exN, by show StrO _ _ _ _ ((L.take (q + 1)).map textS); rw [hts]; exact spN⟩, by show L.length - (q + 1) < L.length - q; omega, ?_⟩
    refine Imp.id (by show n ≤ nq + 1 + 2; omega) ?_ (impH.base0 okN (Nat.le_refl _) HExt.rfl)
    simp only [go_sem, Nat.reduceLT, w64 (n := (q : Int) + 1) (by omega), Int.natCast_add, Int.natCast_one]
    exact ⟨by omega, by omega, by omega⟩
end
end Go.Proofs.YtkanbbfddlhlcaaGreatDoor.V

/- Plain laws: texts of stacks, taken apart. -/
namespace Go.Proofs.YtkanbbfddlhlcaaGreatDoor.V
/-- The pieces of a text between pairs of newlines. -/
def spl2 : List UInt8 → List (List UInt8)
  | [] => [[]]
  | [b] => [[b]]
  | b :: c :: l => if b = 10 ∧ c = 10 then [] :: spl2 l else (b :: (spl2 (c :: l)).headD []) :: (spl2 (c :: l)).tail
theorem spl2_ne : ∀ l, spl2 l ≠ []
  | [] => by simp [spl2]
  | [b] => by simp [spl2]
  | b :: c :: l => by rw [spl2]; split <;> simp
theorem spl2_cons {b c : UInt8} {l : List UInt8} (h : ¬ (b = 10 ∧ c = 10)) {x : List UInt8} {r : List (List UInt8)} (e : spl2 (c :: l) = x :: r) : spl2 (b :: c :: l) = (b :: x) :: r := by
  rw [spl2, if_neg h, e]; rfl
theorem idx2_pre (b c : UInt8) (l : List UInt8) : (([10, 10] : List UInt8).isPrefixOf (b :: c :: l)) = (decide (b = 10) && decide (c = 10)) := by
  show ((10 : UInt8) == b && ((10 : UInt8) == c && true)) = _
  rw [Bool.and_true]
  congr 1
  · by_cases h : b = 10
    · rw [h]; rfl
    · rw [decide_eq_false h]; simpa using Ne.symm h
  · by_cases h : c = 10
    · rw [h]; rfl
    · rw [decide_eq_false h]; simpa using Ne.symm h
theorem spl2_key : ∀ l : List UInt8, (Lib.index l [10, 10] = -1 → spl2 l = [l]) ∧ ∀ i : Nat, Lib.index l [10, 10] = i → i + 2 ≤ l.length → spl2 l = l.take i :: spl2 (l.drop (i + 2))
  | [] => ⟨fun _ => rfl, fun i _ h => by simp at h⟩
  | [b] => ⟨fun _ => rfl, fun i _ h => by simp at h⟩
  | b :: c :: l => by
    obtain ⟨ih1, ih2⟩ := spl2_key (c :: l)
    rw [Lib.index, idx2_pre]
    by_cases h : b = 10 ∧ c = 10
    · rw [if_pos (by rw [h.1, h.2]; rfl)]
      refine ⟨fun e => by omega, fun i e hi => ?_⟩
      have : i = 0 := by omega
      subst this
      rw [spl2, if_pos h]; rfl
    · rw [if_neg (by simpa using h)]
      refine ⟨fun e => ?_, fun i e hi => ?_⟩
      · by_cases hm : Lib.index (c :: l) [10, 10] = -1
        · rw [spl2_cons h (ih1 hm)]
        · rw [if_neg (by simpa using hm)] at e
          exfalso
          have hge : -1 ≤ Lib.index (c :: l) [10, 10] := Lib.index_ge _ _
          omega
      · by_cases hm : Lib.index (c :: l) [10, 10] = -1
        · rw [hm, if_pos (by simp)] at e; omega
        · rw [if_neg (by simpa using hm)] at e
          obtain ⟨j, rfl⟩ : ∃ j, i = j + 1 := ⟨i - 1, by
            have hge : -1 ≤ Lib.index (c :: l) [10, 10] := Lib.index_ge _ _
            omega⟩
          rw [spl2_cons h (ih2 j (by omega) (by simp at hi ⊢; omega))]
          rfl
theorem spl2_B : ∀ (k : Nat) (s : ByteArray), Lib.countB s ⟨#[10, 10]⟩ = k → (Lib.splitB ⟨#[10, 10]⟩ 0 k s).map (fun x : ByteArray => x.data.toList) = spl2 s.data.toList
  | k, s, hk => by
    rcases Lib.indexB_cases s ⟨#[10, 10]⟩ with hix | ⟨i, hix, hroom⟩
    · rw [Lib.splitB_miss _ _ _ _ hix, (spl2_key s.data.toList).1 hix]; rfl
    · have hh := Lib.countB_hit s ⟨#[10, 10]⟩ i (by show 1 ≤ 2; omega) hix
      obtain ⟨k, rfl⟩ : ∃ k', k = k' + 1 := ⟨k - 1, by omega⟩
      have s1 : (⟨#[10, 10]⟩ : ByteArray).size = 2 := rfl
      rw [s1] at hh hroom
      have ih := spl2_B k (s.extract (i + 2) s.size) (by omega)
      have hlen : s.data.toList.length = s.size := by rw [Array.length_toList]; rfl
      rw [Lib.splitB_hit _ _ _ _ i hix, List.map_cons, s1, ih, (spl2_key s.data.toList).2 i hix (by omega), Lib.extract_to_end]
      congr 1
      rw [Nat.add_zero, ByteArray.data_extract, Array.toList_extract, List.extract_eq_drop_take]
      simp
termination_by k _ _ => k
theorem spl2_le : ∀ {l : List UInt8} {x : List UInt8}, x ∈ spl2 l → x.length ≤ l.length
  | [], x, h => by simp [spl2] at h; subst h; simp
  | [b], x, h => by simp [spl2] at h; subst h; simp
  | b :: c :: l, x, h => by
    rw [spl2] at h
    split at h
    · rcases List.mem_cons.1 h with rfl | h
      · simp
      · have := spl2_le h; simp; omega
    · rcases List.mem_cons.1 h with rfl | h
      · cases e : spl2 (c :: l) with
        | nil => exact absurd e (spl2_ne _)
        | cons y r =>
          have := spl2_le (l := c :: l) (x := y) (by rw [e]; simp)
          simp at this ⊢; omega
      · have := spl2_le (l := c :: l) (List.mem_of_mem_tail h)
        simp at this ⊢; omega
theorem spl2_len : ∀ l : List UInt8, (spl2 l).length ≤ l.length + 1
  | [] => by simp [spl2]
  | [b] => by simp [spl2]
  | b :: c :: l => by
    have h1 := spl2_len l
    have h2 := spl2_len (c :: l)
    rw [spl2]
    split
    · simp; omega
    · have := List.length_pos_iff.2 (spl2_ne (c :: l))
      simp at h2 ⊢; omega
/-- Not empty, no newline at the end, no two of them side by side. -/
def nnB : List UInt8 → Bool
  | [] => false
  | [b] => decide (b ≠ 10)
  | b :: c :: l => !(decide (b = 10) && decide (c = 10)) && nnB (c :: l)
theorem spl2_mid : ∀ {a : List UInt8} (l : List UInt8), nnB a = true → spl2 (a ++ 10 :: 10 :: l) = a :: spl2 l
  | [], _, h => by simp [nnB] at h
  | [b], l, h => by
    have hb : b ≠ 10 := by simpa [nnB] using h
    exact spl2_cons (fun e => hb e.1) (by rw [spl2, if_pos ⟨rfl, rfl⟩])
  | b :: c :: a, l, h => by
    simp only [nnB, Bool.and_eq_true, Bool.not_eq_true'] at h
    have ih := spl2_mid l h.2
    exact spl2_cons (fun e => by rw [e.1, e.2] at h; simp at h) ih
theorem spl2_end : ∀ {a : List UInt8}, nnB a = true → spl2 (a ++ [10]) = [a ++ [10]]
  | [], h => by simp [nnB] at h
  | [b], h => by
    have hb : b ≠ 10 := by simpa [nnB] using h
    exact spl2_cons (fun e => hb e.1) rfl
  | b :: c :: a, h => by
    simp only [nnB, Bool.and_eq_true, Bool.not_eq_true'] at h
    have ih := spl2_end h.2
    exact spl2_cons (fun e => by rw [e.1, e.2] at h; simp at h) ih
theorem nnB_app : ∀ {r x : List UInt8}, r ≠ [] → (10 : UInt8) ∉ r → nnB x = true → x.head? ≠ some 10 → nnB (r ++ 10 :: x) = true
  | [], _, h, _, _, _ => absurd rfl h
  | [b], x, _, h, hx, hh => by
    have hb : b ≠ 10 := by simpa using Ne.symm (by simpa using h)
    cases x with
    | nil => simp [nnB] at hx
    | cons c x =>
      have hc : c ≠ 10 := by simpa using hh
      simp [nnB, hb, hc, hx]
  | b :: c :: r, x, _, h, hx, hh => by
    simp only [List.mem_cons, not_or] at h
    have ih := nnB_app (r := c :: r) (x := x) (by simp) (by simp only [List.mem_cons, not_or]; exact h.2) hx hh
    have : b ≠ 10 := Ne.symm h.1
    show nnB (b :: c :: (r ++ 10 :: x)) = true
    simp only [nnB, decide_eq_false this, Bool.false_and, Bool.not_false, Bool.true_and]
    exact ih
theorem nnB_one : ∀ {r : List UInt8}, r ≠ [] → (10 : UInt8) ∉ r → nnB r = true
  | [], h, _ => absurd rfl h
  | [b], _, h => by
    have : b ≠ 10 := Ne.symm (by simpa using h)
    simp [nnB, this]
  | b :: c :: r, _, h => by
    simp only [List.mem_cons, not_or] at h
    have ih := nnB_one (r := c :: r) (by simp) (by simp only [List.mem_cons, not_or]; exact h.2)
    have : b ≠ 10 := Ne.symm h.1
    simp only [nnB, decide_eq_false this, Bool.false_and, Bool.not_false, Bool.true_and]
    exact ih
theorem nnB_join : ∀ {L : List (List UInt8)}, L ≠ [] → (∀ r ∈ L, r ≠ [] ∧ (10 : UInt8) ∉ r) → nnB (Lib.join L [10]) = true
  | [], h, _ => absurd rfl h
  | [a], _, h => by
    have := h a (by simp)
    rw [Lib.join_cons]
    simp only [Lib.joinTail, List.map_nil, List.flatten_nil, List.append_nil]
    simpa [Lib.joinTail] using nnB_one this.1 this.2
  | a :: b :: L, _, h => by
    have ih := nnB_join (L := b :: L) (by simp) (fun x hx => h x (List.mem_cons_of_mem _ hx))
    have e : Lib.join (a :: b :: L) [10] = a ++ 10 :: Lib.join (b :: L) [10] := by rw [Lib.join_cons, Lib.join_cons]; simp [Lib.joinTail]
    have ha := h a (by simp)
    have hb := h b (by simp)
    rw [e]
    refine nnB_app ha.1 ha.2 ih ?_
    rw [Lib.join_cons]
    cases b with
    | nil => exact absurd rfl hb.1
    | cons c b =>
      have : c ≠ 10 := fun e => hb.2 (by rw [e]; simp)
      simpa using this
/-- The rows of a sheet's text, without the last newline. -/
def blkS (S : Sh) : List UInt8 := Lib.join (rowsS S) [10]
theorem nlL_joinN : ∀ {L : List (List UInt8)}, L ≠ [] → nlL L = Lib.join L [10] ++ [10] := fun {L} => by
  induction L with
  | nil => intro h; exact absurd rfl h
  | cons a L ih =>
    intro _
    cases L with
    | nil => simp [nlL, Lib.join_cons, Lib.joinTail]
    | cons b L =>
      have ih := ih (by simp)
      have e1 : nlL (a :: b :: L) = a ++ [10] ++ nlL (b :: L) := by simp [nlL]
      rw [e1, ih, Lib.join_cons, Lib.join_cons]; simp [Lib.joinTail]
theorem rowsS_ok {S : Sh} (hV : Valid S) : rowsS S ≠ [] ∧ ∀ r ∈ rowsS S, r ≠ [] ∧ (10 : UInt8) ∉ r := by
  have h8 := hV.1
  unfold Small at h8
  refine ⟨fun e => by have := rowsS_len S; rw [e] at this; simp at this; omega, fun r hr => ⟨?_, rowsS_no S r hr⟩⟩
  obtain ⟨y, hy, rfl⟩ := List.mem_map.1 hr
  have hy : y < S.high.toNat := List.mem_range.1 hy
  intro e
  have e2 := spl_words h8.1 y
  rw [e] at e2
  have h1 := wordsS_len S y
  have hw : wordsS S y = [[]] := by rw [← e2]; rfl
  have hg := wordsS_get S y (x := 0) (by omega)
  rw [hw] at hg
  have hp := wdN_pw hV (x := 0) (y := y) (by omega) (by omega)
  rw [← hg] at hp
  have : pwO [] = none := rfl
  rw [show (([[]] : List (List UInt8)).getD 0 []) = [] from rfl, this] at hp
  cases hp
theorem textS_blk {S : Sh} (hV : Valid S) : textS S = blkS S ++ [10] ∧ nnB (blkS S) = true := by
  obtain ⟨h1, h2⟩ := rowsS_ok hV
  exact ⟨by rw [textS_rows, nlL_joinN h1]; rfl, nnB_join h1 h2⟩
/-- The pieces of a stack's text. -/
def pcsL : List Sh → List (List UInt8)
  | [] => []
  | [S] => [textS S]
  | S :: T :: L => blkS S :: pcsL (T :: L)
theorem pcsL_len : ∀ L, (pcsL L).length = L.length
  | [] => rfl
  | [S] => rfl
  | S :: T :: L => by simp [pcsL, pcsL_len (T :: L)]
theorem pcsL_text : ∀ (L : List Sh), (∀ S ∈ L, Valid S) → ∀ i, i < L.length → (if i + 1 < L.length then (pcsL L).getD i [] ++ [10] else (pcsL L).getD i []) = textS (L.getD i sh0)
  | [], _, i, h => by simp at h
  | [S], _, i, h => by
    have : i = 0 := by simpa using h
    subst this
    rfl
  | S :: T :: L, hV, 0, h => by
    rw [if_pos (by simp)]
    exact (textS_blk (hV S (by simp))).1.symm
  | S :: T :: L, hV, i + 1, h => by
    have ih := pcsL_text (T :: L) (fun S hS => hV S (List.mem_cons_of_mem _ hS)) i (by simpa using h)
    simp only [List.length_cons, Nat.add_lt_add_iff_right] at ih ⊢
    exact ih
theorem spl2_pcs : ∀ (L : List Sh), L ≠ [] → (∀ S ∈ L, Valid S) → spl2 (Lib.join (L.map textS) [10]) = pcsL L
  | [], h, _ => absurd rfl h
  | [S], _, hV => by
    obtain ⟨h1, h2⟩ := textS_blk (hV S (by simp))
    rw [List.map_cons, List.map_nil, Lib.join_cons]
    simp only [Lib.joinTail]
    have : spl2 (textS S) = [textS S] := by rw [h1]; exact spl2_end h2
    simpa [pcsL] using this
  | S :: T :: L, _, hV => by
    obtain ⟨h1, h2⟩ := textS_blk (hV S (by simp))
    have ih := spl2_pcs (T :: L) (by simp) (fun S hS => hV S (List.mem_cons_of_mem _ hS))
    have e : Lib.join ((S :: T :: L).map textS) [10] = blkS S ++ 10 :: 10 :: Lib.join ((T :: L).map textS) [10] := by
      rw [List.map_cons, List.map_cons, Lib.join_cons, Lib.join_cons, h1]; simp [Lib.joinTail]
    rw [e, spl2_mid _ h2, ih]; rfl
/-- Lines gathered to blocks: those that an empty line ends, and what is left. -/
def blks : List (List UInt8) → List UInt8 → List (List UInt8) × List UInt8
  | [], bl => ([], bl)
  | l :: r, bl => if l = [] then (bl :: (blks r []).1, (blks r []).2) else blks r (bl ++ (l ++ [10]))
theorem blks_nl : ∀ (L : List (List UInt8)) (bl : List UInt8), bl ++ nlL L = ((blks L bl).1.map fun b => b ++ [10]).flatten ++ (blks L bl).2
  | [], bl => by simp [blks, nlL]
  | l :: r, bl => by
    rw [blks]
    split
    · rename_i h; subst h
      have := blks_nl r []
      simp only [List.map_cons, List.flatten_cons]
      rw [List.append_assoc, ← this]
      simp [nlL]
    · rw [← blks_nl r]
      simp [nlL]
theorem blks_rows : ∀ (R : List (List UInt8)) (r : List (List UInt8)) (bl : List UInt8), (∀ x ∈ R, x ≠ []) → blks (R ++ [] :: r) bl = ((bl ++ nlL R) :: (blks r []).1, (blks r []).2)
  | [], r, bl, _ => by simp [blks, nlL]
  | l :: R, r, bl, h => by
    rw [List.cons_append, blks, if_neg (h l (by simp)), blks_rows R r _ fun x hx => h x (List.mem_cons_of_mem _ hx)]
    simp [nlL]
/-- The lines of a stack's text. -/
theorem spl_stack : ∀ (L : List Sh), L ≠ [] → (∀ S ∈ L, Valid S) → spl 10 (Lib.join (L.map textS) [10]) = (L.map fun S => rowsS S ++ [[]]).flatten
  | [], h, _ => absurd rfl h
  | [S], _, hV => by
    have : spl 10 (textS S) = rowsS S ++ [[]] := by rw [textS_rows]; exact spl_nlL (rowsS_no S)
    rw [List.map_cons, List.map_nil, Lib.join_cons]
    simpa [Lib.joinTail] using this
  | S :: T :: L, _, hV => by
    have ih := spl_stack (T :: L) (by simp) (fun S hS => hV S (List.mem_cons_of_mem _ hS))
    have e : Lib.join ((S :: T :: L).map textS) [10] = Lib.join (rowsS S) [10] ++ 10 :: 10 :: Lib.join ((T :: L).map textS) [10] := by
      rw [List.map_cons, List.map_cons, Lib.join_cons, Lib.join_cons, (textS_blk (hV S (by simp))).1]; simp [Lib.joinTail, blkS]
    have hap : ∀ (R : List (List UInt8)) (x : List UInt8), R ≠ [] → (∀ a ∈ R, (10 : UInt8) ∉ a) → spl 10 (Lib.join R [10] ++ 10 :: x) = R ++ spl 10 x := fun R x => by
      induction R with
      | nil => intro h; exact absurd rfl h
      | cons a R ih2 =>
        intro _ hR
        cases R with
        | nil =>
          have : spl 10 (a ++ 10 :: x) = a :: spl 10 x := spl_app _ (hR a (by simp))
          rw [Lib.join_cons]
          simpa [Lib.joinTail] using this
        | cons b R =>
          have ih2 := ih2 (by simp) (fun c hc => hR c (List.mem_cons_of_mem _ hc))
          have e1 : Lib.join (a :: b :: R) [10] = a ++ 10 :: Lib.join (b :: R) [10] := by rw [Lib.join_cons, Lib.join_cons]; simp [Lib.joinTail]
          rw [e1, List.append_assoc, List.cons_append, spl_app _ (hR a (by simp)), ih2]; rfl
    rw [e, hap _ _ (rowsS_ok (hV S (by simp))).1 (rowsS_no S)]
    have e2 : spl 10 (10 :: Lib.join ((T :: L).map textS) [10]) = [] :: spl 10 (Lib.join ((T :: L).map textS) [10]) := by rw [spl, if_pos rfl]
    rw [e2, ih]
    simp
theorem blks_stack : ∀ (L : List Sh), (∀ S ∈ L, Valid S) → blks (L.map fun S => rowsS S ++ [[]]).flatten [] = (L.map textS, [])
  | [], _ => rfl
  | S :: L, hV => by
    have ih := blks_stack L fun S hS => hV S (List.mem_cons_of_mem _ hS)
    have e : ((S :: L).map fun S => rowsS S ++ [[]]).flatten = rowsS S ++ [] :: (L.map fun S => rowsS S ++ [[]]).flatten := by simp
    rw [e, blks_rows _ _ _ fun x hx => ((rowsS_ok (hV S (by simp))).2 x hx).1, ih, List.nil_append, ← textS_rows]
    rfl
/-- Blocks that leave nothing: the text is theirs. -/
theorem blks_back {s : List UInt8} {B : List (List UInt8)} (h : blks (spl 10 s) [] = (B, [])) : s = Lib.join B [10] := by
  have h1 := blks_nl (spl 10 s) []
  rw [h, List.nil_append, List.append_nil, nlL_joinN (spl_ne 10 s), spl_join] at h1
  have hB : B ≠ [] := by
    rintro rfl
    simp at h1
  have : (B.map fun b => b ++ [10]).flatten = Lib.join B [10] ++ [10] := nlL_joinN hB
  simp only at h1
  rw [this] at h1
  exact List.append_cancel_right h1
end Go.Proofs.YtkanbbfddlhlcaaGreatDoor.V

/- Plain laws: what reading a stack's text gives; lists of sheets to which one may append. -/
namespace Go.Proofs.YtkanbbfddlhlcaaGreatDoor.V
/-- What reading a stack's text gives: the stack of that text; else none. -/
def RkIs (s : List UInt8) (L : List Sh) (c : Int) : Prop := (c = 0 ∧ StOk L ∧ StR L ∧ s = Lib.join (L.map textS) [10]) ∨ (c = 5 ∧ L = [] ∧ ¬ ∃ M, StOk M ∧ StR M ∧ s = Lib.join (M.map textS) [10])
theorem rkIs_ex (s : List UInt8) : ∃ L c, RkIs s L c := by
  rcases Classical.em (∃ Q, StOk Q ∧ StR Q ∧ s = Lib.join (Q.map textS) [10]) with ⟨Q, h1, h2, h3⟩ | hq
  · exact ⟨Q, 0, .inl ⟨rfl, h1, h2, h3⟩⟩
  · exact ⟨[], 5, .inr ⟨rfl, rfl, hq⟩⟩
theorem StOk.valid {L : List Sh} (h : StOk L) : ∀ S ∈ L, Valid S := fun S hS => by
  obtain ⟨k, hk, rfl⟩ := List.mem_iff_getElem.1 hS
  rw [getE_D L sh0 hk]
  exact (h.2 k hk).1
theorem stR_mem {L : List Sh} (h : StR L) : ∀ S ∈ L, ShR S := fun S hS => by
  obtain ⟨k, hk, rfl⟩ := List.mem_iff_getElem.1 hS
  rw [getE_D L sh0 hk]
  exact h k hk
/-- Valid sheets of the same texts have the same cells. -/
theorem texts_inj {L M : List Sh} (hL : ∀ S ∈ L, Valid S) (hLR : ∀ S ∈ L, ShR S) (hM : ∀ S ∈ M, Valid S) (hMR : ∀ S ∈ M, ShR S) (h : L.map textS = M.map textS) : L.length = M.length ∧ ∀ i, i < L.length → ∀ j, j < 266 → shC (L.getD i sh0) j = shC (M.getD i sh0) j := by
  have hl : L.length = M.length := by have := congrArg List.length h; simpa using this
  refine ⟨hl, fun i hi => ?_⟩
  have hiM : i < M.length := by omega
  have e : textS L[i] = textS M[i] := by
    have h1 : (L.map textS)[i]'(by simpa using hi) = (M.map textS)[i]'(by simpa using hiM) := by simp only [h]
    simpa using h1
  rw [← getE_D L sh0 hi, ← getE_D M sh0 hiM]
  exact rowsS_inj (hL _ (List.getElem_mem _)) (hLR _ (List.getElem_mem _)) (hM _ (List.getElem_mem _)) (hMR _ (List.getElem_mem _)) rfl e
theorem stC_of {L M : List Sh} (hl : L.length = M.length) (h : ∀ i, i < L.length → ∀ j, j < 266 → shC (L.getD i sh0) j = shC (M.getD i sh0) j) : ∀ k, k < L.length * 266 → stC L k = stC M k := fun k hk => by
  unfold stC
  exact h (k / 266) (by omega) (k % 266) (by omega)
theorem sides_of {S T : Sh} (h : ∀ j, j < 266 → shC S j = shC T j) : S.wide = T.wide ∧ S.high = T.high := by
  have h0 := h 0 (by omega)
  have h1 := h 1 (by omega)
  rw [shC_0, shC_0] at h0
  rw [shC_1, shC_1] at h1
  exact ⟨by injection h0, by injection h1⟩
theorem stOk_of {L M : List Sh} (hM : StOk M) (hL : ∀ S ∈ L, Valid S) (hl : L.length = M.length) (h : ∀ i, i < L.length → ∀ j, j < 266 → shC (L.getD i sh0) j = shC (M.getD i sh0) j) : StOk L := by
  refine ⟨by rw [hl]; exact hM.1, fun i hi => ?_⟩
  have a := sides_of (h i hi)
  have b := sides_of (h 0 (by omega))
  have c := (hM.2 i (by omega)).2
  refine ⟨?_, by rw [a.1, b.1]; exact c.1, by rw [a.2, b.2]; exact c.2⟩
  rw [← getE_D L sh0 hi]
  exact hL _ (List.getElem_mem _)
theorem textS_ne {S : Sh} (hV : Valid S) : textS S ≠ [] := by rw [(textS_blk hV).1]; simp
theorem join_empty {M : List Sh} (hM : ∀ S ∈ M, Valid S) (h : ([] : List UInt8) = Lib.join (M.map textS) [10]) : M = [] := by
  cases M with
  | nil => rfl
  | cons S M =>
    rw [List.map_cons, Lib.join_cons] at h
    have := List.append_eq_nil_iff.1 h.symm
    exact absurd this.1 (textS_ne (hM S (by simp)))
theorem RkIs.empty {L : List Sh} {c : Int} (h : RkIs [] L c) : L = [] ∧ c = 0 := by
  rcases h with ⟨rfl, h1, h2, h3⟩ | ⟨rfl, rfl, h3⟩
  · exact ⟨join_empty h1.valid h3, rfl⟩
  · exact absurd ⟨[], ⟨by simp, fun i hi => by simp at hi⟩, fun i hi => by simp at hi, by simp [Lib.join_nil]⟩ h3
/-- A list of sheets to which one may append. -/
structure Sta (h : List (Nat × Seg)) (n j cap : Nat) (sc : Nat → SV) (L : List Sh) : Prop where
  lt : j < n
  seg : hget h j = some ⟨L.length * 266, sc, true, some (40, cap * 266)⟩
  le : L.length ≤ cap
  cap : cap ≤ maxLen
  cells : ∀ k, k < L.length * 266 → sc k = stC L k
theorem Sta.out {h : List (Nat × Seg)} {lo n j cap : Nat} {sc : Nat → SV} {L : List Sh} (S : Sta h n j cap sc L) (hlo : lo ≤ j) : StOut h lo n (.sl j 0 L.length cap) L :=
  .inr ⟨j, cap, _, rfl, hlo, S.lt, S.seg, rfl, rfl, S.cells⟩
theorem Sta.arg {h : List (Nat × Seg)} {n j cap : Nat} {sc : Nat → SV} {L : List Sh} (S : Sta h n j cap sc L) : StArg h n (.sl j 0 L.length cap) L :=
  .inr ⟨j, cap, _, rfl, S.lt, S.seg, Nat.le_refl _, S.cells⟩
theorem StOut.congr {h : List (Nat × Seg)} {lo n : Nat} {V : SV} {L M : List Sh} (S : StOut h lo n V L) (hl : L.length = M.length) (hc : ∀ k, k < L.length * 266 → stC L k = stC M k) : StOut h lo n V M := by
  rcases S with ⟨rfl, rfl⟩ | ⟨i, cap, s, rfl, h0, hi, hs, hr, hn, hcc⟩
  · exact .inl ⟨rfl, List.length_eq_zero_iff.1 hl.symm⟩
  · exact .inr ⟨i, cap, s, by rw [hl], h0, hi, hs, hr, by rw [hn, hl], fun k hk => (hcc k (by rw [hl]; exact hk)).trans (hc k (by rw [hl]; exact hk))⟩
theorem stC_snoc {L : List Sh} {S : Sh} : ∀ k, k < (L.length + 1) * 266 → both (L.length * 266) (stC L) (news (shC S) 0) k = stC (L ++ [S]) k := fun k hk => by
  unfold both news stC
  split
  · rename_i h
    have : k / 266 < L.length := by omega
    rw [List.getD_eq_getElem?_getD, List.getD_eq_getElem?_getD, List.getElem?_append_left this]
  · rename_i h
    have : k / 266 = L.length := by omega
    have h2 : k - L.length * 266 = k % 266 := by omega
    have e2 : (L ++ [S]).getD L.length sh0 = S := by simp
    rw [this, h2, Nat.zero_add, e2]
theorem staApp {h hq : List (Nat × Seg)} {n nq j cap cap' : Nat} {sc c1 : Nat → SV} {L : List Sh} {S : Sh} {w : Option (Nat × Nat)} {t0 : Seg}
    (A : Sta hq nq j cap sc L) (ok : HOk nq hq) (X : HExt n h hq) (hn : n ≤ j) (hnq : n ≤ nq) (hc1 : ∀ k, k < 266 → c1 k = shC S k) (m1 : L.length + 1 ≤ cap') (m2 : cap' ≤ maxLen) (h0 : ∀ k, k < t0.n → (t0.c k).flat)
    {hN : List (Nat × Seg)} (e : hN = (nq + 2, ⟨(L.length + 1) * 266, both (L.length * 266) sc (news c1 0), true, some (40, cap' * 266)⟩) :: (nq + 1, ⟨266, c1, true, w⟩) :: (nq, t0) :: hdel hq j) :
    HOk (nq + 3) hN ∧ HExt n h hN ∧ Sta hN (nq + 3) (nq + 2) cap' (both (L.length * 266) sc (news c1 0)) (L ++ [S]) ∧ ∀ i t, i < nq → i ≠ j → hget hq i = some t → hget hN i = some t := by
  subst e
  have hjn := A.lt
  have hcel : ∀ k, k < (L.length + 1) * 266 → both (L.length * 266) sc (news c1 0) k = stC (L ++ [S]) k := fun k hk => by
    rw [← stC_snoc k hk]
    unfold both news
    split
    · rename_i h; exact A.cells k h
    · rename_i h; exact hc1 _ (by omega)
  have old : ∀ i t, i < nq → i ≠ j → hget hq i = some t → hget ((nq + 2, (⟨(L.length + 1) * 266, both (L.length * 266) sc (news c1 0), true, some (40, cap' * 266)⟩ : Seg)) :: (nq + 1, ⟨266, c1, true, w⟩) :: (nq, t0) :: hdel hq j) i = some t := fun i t h1 h2 h4 => by
    simp only [hget]
    rw [if_neg (by omega), if_neg (by omega), if_neg (by omega), hget_hdel, if_neg (Ne.symm h2)]
    exact h4
  refine ⟨fun i t hi => ?_, fun i hi t ht => old i t (by omega) (by omega) (X i hi t ht), ⟨by omega, by simp [hget], by simpa using m1, m2, fun k hk => hcel k (by simpa using hk)⟩, old⟩
  simp only [hget] at hi
  split at hi
  · rename_i e; cases hi
    refine ⟨by omega, fun k hk => ?_⟩
    show (both (L.length * 266) sc (news c1 0) k).lt (nq + 3)
    rw [hcel k hk]
    exact (stC_flat _ k).below _
  split at hi
  · rename_i e; cases hi
    refine ⟨by omega, fun k hk => ?_⟩
    show (c1 k).lt (nq + 3)
    rw [hc1 k hk]
    exact (shC_flat _ k).below _
  split at hi
  · rename_i e; cases hi
    exact ⟨by omega, fun k hk => (h0 k hk).below _⟩
  · rw [hget_hdel] at hi
    split at hi
    · cases hi
    · exact ⟨by have := (ok i t hi).1; omega, fun k hk => SV.lt_mono (by omega) _ ((ok i t hi).2 k hk)⟩
end Go.Proofs.YtkanbbfddlhlcaaGreatDoor.V

/- A sheet, put into a row of its own and appended to sheets: rules for the walk. -/
namespace Go.Proofs.YtkanbbfddlhlcaaGreatDoor.V
def shX (S : Sh) : Nat → SV := fillC (plOf ti (.sl 40)) [(0, .agg 266 fun j => shC S j)] (zrow (ti 40))
theorem shX_eq (S : Sh) (k : Nat) (hk : k < 266) : shX S k = shC S k := by
  unfold shX
  simp only [fillC, plOf, wr, Nat.zero_mul, Nat.zero_le, true_and, Nat.zero_add]
  rw [if_pos hk]
  rfl
@[go_sem high] theorem bsT_sheet (cx : Cx) (Q : List (Nat × SV) → List (Nat × Seg) → Nat → Prop) (k : List It) (l : List (Nat × SV)) (h : List (Nat × Seg)) (n : Nat) (q : Bool) (all rest : List Oper) (d : Option Nat) (S : Sh) :
    bsT Tryz.prog ti cx Q k l h n q all rest d (.sl 40) 1 [(0, .agg 266 fun j => shC S j)] = T Tryz.prog ti cx Q (.ops q all rest :: k) (put l d (.sl n 0 1 1)) ((n, ⟨266, shX S, true, some (40, 266)⟩) :: h) (n + 1) := by
  rw [bsT_sl, rowT_eq]
  refine propext ⟨And.right, fun hh => ⟨?_, hh⟩⟩
  simp only [go_sem, Nat.reduceLT, Nat.reduceLeDiff, Nat.reduceMul, shC_ones']
  done
@[go_sem high] theorem okSrc_shX (fs : List (Nat × Nat)) (b : Nat) (z : Nat → SV) (S : Sh) (r : Bool) (w : Option (Nat × Nat)) : okSrc ⟨.st fs, 266, b, z⟩ ⟨266, shX S, r, w⟩ 0 1 = True := by
  refine eq_true ⟨trivial, by show 0 < 266; omega, by show 0 + 1 * 266 ≤ 266; omega, allP_iff.2 fun j hj => ?_⟩
  have hj : j < 266 := by simpa using hj
  show (shX S (0 + j)).one
  rw [Nat.zero_add, shX_eq S j hj]
  exact (shC_flat S j).one
end Go.Proofs.YtkanbbfddlhlcaaGreatDoor.V

/- Reading stacks: the program's code: the walk. -/
namespace Go.Proofs.YtkanbbfddlhlcaaGreatDoor.V
theorem RsIs.good {t : List UInt8} {S : Sh} {c : Int} (h : RsIs t S c) (hq : ∃ Q, Valid Q ∧ ShR Q ∧ t = textS Q) : c = 0 := by
  rcases h with ⟨rfl, _⟩ | ⟨_, _, h3⟩
  · rfl
  · exact absurd hq h3
theorem RsIs.zero {t : List UInt8} {S : Sh} (h : RsIs t S 0) : Valid S ∧ ShR S ∧ t = textS S := by
  rcases h with ⟨_, h1, h2, h3⟩ | ⟨h0, _⟩
  · exact ⟨h1, h2, h3⟩
  · exact absurd h0 (by decide)
theorem RsIs.code {t : List UInt8} {S : Sh} {c : Int} (h : RsIs t S c) : c = 0 ∨ c = 5 := by
  rcases h with ⟨h, _⟩ | ⟨h, _⟩
  · exact .inl h
  · exact .inr h
theorem join_ne {L : List Sh} {s : List UInt8} (hs : s ≠ []) (h : s = Lib.join (L.map textS) [10]) : L ≠ [] := by
  rintro rfl
  exact hs (by rw [h]; rfl)
theorem blks_good {L : List Sh} {s : List UInt8} (hV : ∀ S ∈ L, Valid S) (hne : L ≠ []) (h : s = Lib.join (L.map textS) [10]) : blks (spl 10 s) [] = (L.map textS, []) := by
  rw [h, spl_stack L hne hV, blks_stack L hV]
theorem RkIs.two {s : List UInt8} {L M : List Sh} {c d : Int} (h : RkIs s L c) (k : RkIs s M d) : c = d ∧ L.length = M.length ∧ ∀ k, k < L.length * 266 → stC L k = stC M k := by
  rcases h with ⟨rfl, h1, h2, h3⟩ | ⟨rfl, rfl, h3⟩ <;> rcases k with ⟨rfl, k1, k2, k3⟩ | ⟨rfl, rfl, k3⟩
  · by_cases hs : s = []
    · subst hs
      rw [join_empty h1.valid h3, join_empty k1.valid k3]
      exact ⟨rfl, rfl, fun _ _ => rfl⟩
    · have e1 := blks_good h1.valid (join_ne hs h3) h3
      have e2 := blks_good k1.valid (join_ne hs k3) k3
      rw [e1] at e2
      have e3 : L.map textS = M.map textS := by injection e2
      obtain ⟨g1, g2⟩ := texts_inj h1.valid (stR_mem h2) k1.valid (stR_mem k2) e3
      exact ⟨rfl, g1, stC_of g1 g2⟩
  · exact absurd ⟨L, h1, h2, h3⟩ k3
  · exact absurd ⟨M, k1, k2, k3⟩ h3
  · exact ⟨rfl, rfl, fun _ _ => rfl⟩
/-- The i-th block, of the pieces P. -/
def blkT (P : List (List UInt8)) (i : Nat) : List UInt8 := if i + 1 < P.length then P.getD i [] ++ [10] else P.getD i []
theorem blkT_good {M : List Sh} (hV : ∀ S ∈ M, Valid S) {i : Nat} (hi : i < M.length) : blkT (pcsL M) i = textS (M.getD i sh0) := by
  unfold blkT
  rw [pcsL_len]
  exact pcsL_text M hV i hi
theorem map_ext {L M : List Sh} (hl : L.length = M.length) (h : ∀ i, i < L.length → textS (L.getD i sh0) = textS (M.getD i sh0)) : L.map textS = M.map textS := by
  apply List.ext_getElem
  · simpa using hl
  · intro i h1 h2
    rw [List.getElem_map, List.getElem_map, getE_D L sh0 (by simpa using h1), getE_D M sh0 (by simpa using h2)]
    exact h i (by simpa using h1)
section
variable (cx : Cx) (h : List (Nat × Seg)) (n : Nat)
theorem splitNN_E (hM : MaxOk cx) (s : List UInt8) (hs : s.length ≤ 4294967280) (K : HK)
    (hK : K (.sl n 0 (spl2 s).length (spl2 s).length) ((n, ⟨(spl2 s).length, strsC (spl2 s), true, some (9, (spl2 s).length)⟩) :: h) (n + 1)) : CallE Tryz.prog cx 12 [.str (S8 s), .str (S8 [10, 10])] h n K := by
  obtain ⟨m, hm⟩ := hM
  refine ⟨Tryz.call12, by simp only [go_sem, and_self], fun ρ w sh _ => ?_⟩
  have hsz : (S8 s).size = s.length := S8_size s
  refine (Tryz.strings_Split (S8 s) (S8 [10, 10]) m w (by omega) (hm w sh.keeps) (by show 1 ≤ 2; omega)).mono fun e w' he => ?_
  obtain ⟨rfl, rfl⟩ := he
  have hL : (Lib.splitB (S8 [10, 10]) 0 (Lib.countB (S8 s) (S8 [10, 10])) (S8 s)).map (fun x : ByteArray => x.data.toList) = spl2 s := by
    have := spl2_B (Lib.countB (S8 s) (S8 [10, 10])) (S8 s) rfl
    rw [S8_list] at this
    exact this
  have hlen : Lib.countB (S8 s) (S8 [10, 10]) + 1 = (spl2 s).length := by
    rw [← hL, List.length_map, Lib.splitB_all _ (by show 1 ≤ 2; omega) 0 _ _ rfl]
  generalize hLL : Lib.splitB (S8 [10, 10]) 0 (Lib.countB (S8 s) (S8 [10, 10])) (S8 s) = LL at *
  rw [hlen]
  have hLl : LL.length = (spl2 s).length := by rw [← hL, List.length_map]
  have hheap : (w.alloc (.cells (LL.map Value.string).toArray 9)).heap[w.heap.size]? = some (.cells (LL.map Value.string).toArray 9 (0, 0)) := heap_alloc_new w _
  have hg : w.grownBy (w.alloc (.cells (LL.map Value.string).toArray 9)) none := ⟨rfl, rfl, rfl, by simp, fun k hk _ => heap_alloc_old w _ hk⟩
  obtain ⟨ρ', r1, r2, r3⟩ := sh.own_step (h2 := h) hg (fun _ _ h => h) (fun z q hq => by simp) (fun b hb => by cases hb) hheap
    (fun z q hq => Nat.ne_of_lt (sh.seg z q hq).blk) sh.keeps.size (spl2 s).length (strsC (spl2 s)) (fun k hk => by
      have hk' : k < LL.length := by omega
      simp only [List.getElem?_toArray, List.getElem?_map, List.getElem?_eq_getElem hk', Option.map_some]
      have e : (spl2 s).getD k [] = (LL[k]).data.toList := by rw [← hL, List.getD_eq_getElem?_getD, List.getElem?_map, List.getElem?_eq_getElem hk']; rfl
      show some (Value.string LL[k]) = some (Value.string (S8 ((spl2 s).getD k [])))
      rw [e]; rfl) (fun _ _ => trivial)
  have hcs : (LL.map Value.string).toArray.size = (spl2 s).length := by simp [hLl]
  rw [hcs] at r3
  refine ⟨ρ', .sl n 0 (spl2 s).length (spl2 s).length, _, n + 1, fun i hi => r1 i (by omega), Nat.le_succ n, ?_, Nat.lt_succ_self n, r3, hK⟩
  simp [den, r2]
set_option maxRecDepth 20000 in
theorem readStack_E (hT : TabOk cx) (hM : MaxOk cx) (hE : ErrOk cx) (s : List UInt8) (L : List Sh) (c : Int) (hI : RkIs s L c) (hs9 : s.length ≤ 1048576) (K : HK)
    (hK : ∀ V h' n', n ≤ n' → HExt n h h' → HOk n' h' → StOut h' n n' V L → K (.tup 2 (cl [V, .int .i64 c])) h' n') :
    CallE Tryz.prog cx 5 [.str (S8 s)] h n K := by
  have e0 : (⟨#[]⟩ : ByteArray) = S8 [] := rfl
  have e10 : (⟨#[10]⟩ : ByteArray) = S8 [10] := rfl
  have e1010 : (⟨#[10, 10]⟩ : ByteArray) = S8 [10, 10] := rfl
  have hS8 : ∀ a b : List UInt8, (S8 a = S8 b) = (a = b) := fun a b => propext ⟨fun e => by have := congrArg (fun x : ByteArray => x.data.toList) e; simpa [S8_list] using this, fun e => by rw [e]⟩
  have hno : ¬ (∃ M, StOk M ∧ StR M ∧ s = Lib.join (M.map textS) [10]) → L = [] ∧ c = 5 := fun hq => by
    rcases hI with ⟨_, h1, h2, h3⟩ | ⟨rfl, rfl, _⟩
    · exact absurd ⟨L, h1, h2, h3⟩ hq
    · exact ⟨rfl, rfl⟩
  refine callE_of_T (P := Tryz.prog) hti (nt := 52) (rs := [.tmp 2, .tmp 3]) rfl rfl Tryz.call5 Tryz.func5 rfl _ (by simp only [go_sem, and_self]) (Nat.le_of_ble_eq_true rfl) _ fun hok => ?_
  simp only [go_sem, Nat.reduceLT, Nat.reduceMul]
  generalize zrow _ = Z
  have okA : HOk (n + 1) ((n, ⟨0, Z, true, some (40, 0)⟩) :: h) := fun i t hi => by
    simp only [hget] at hi
    split at hi
    · rename_i e; cases hi; exact ⟨by omega, fun k hk => absurd hk (Nat.not_lt_zero k)⟩
    · exact ⟨by have := (hok i t hi).1; omega, fun k hk => SV.lt_mono (by omega) _ ((hok i t hi).2 k hk)⟩
  have StaA : Sta ((n, ⟨0, Z, true, some (40, 0)⟩) :: h) (n + 1) n 0 Z [] := ⟨by omega, by simp [hget], Nat.le_refl _, Nat.zero_le _, fun k hk => by simp at hk⟩
  by_cases hs0 : s = []
  · subst hs0
    obtain ⟨rfl, rfl⟩ := hI.empty
    simp only [go_sem, reduceCtorEq, e0, hS8]
    exact hK _ _ _ (by omega) (by simp only [go_sem, HExt_cons]) okA (StaA.out (Nat.le_refl n))
  simp only [go_sem, e0, hS8, hs0, e1010]
  refine callA_false (splitNN_E _ _ _ (hM.sub _ _) s (by omega) _ ?_)
  have hgood : ∀ M, StOk M → s = Lib.join (M.map textS) [10] → spl2 s = pcsL M := fun M m1 m3 => by
    rw [m3]; exact spl2_pcs M (join_ne hs0 m3) m1.valid
  have hPn := List.length_pos_iff.2 (spl2_ne s)
  have hPl := spl2_len s
  have hPg : ∀ i, ((spl2 s).getD i []).length ≤ s.length := fun i => by
    rw [List.getD_eq_getElem?_getD]
    cases hy : (spl2 s)[i]? with
    | none => simp
    | some a => exact spl2_le (List.mem_of_getElem? hy)
  generalize hPP : spl2 s = P at *
  have o1 : HOk (n + 2) ((n + 1, strsS P) :: (n, ⟨0, Z, true, some (40, 0)⟩) :: h) := fun i t hi => by
    rw [hget.eq_2] at hi
    split at hi
    · rename_i e; cases hi; exact ⟨by omega, fun k hk => trivial⟩
    · exact ⟨by have := (okA i t hi).1; omega, fun k hk => SV.lt_mono (by omega) _ ((okA i t hi).2 k hk)⟩
  have Sta1 : Sta ((n + 1, strsS P) :: (n, ⟨0, Z, true, some (40, 0)⟩) :: h) (n + 2) n 0 Z [] := ⟨by omega, by simp [hget], Nat.le_refl _, Nat.zero_le _, fun k hk => by simp at hk⟩
  simp only [go_sem, Nat.reduceLT]
  refine T_lp (ι := { q : Nat × List (Nat × Seg) × Nat × Nat × Nat × (Nat → SV) × List Sh // q.1 ≤ P.length ∧ n + 2 ≤ q.2.2.1 ∧ HOk q.2.2.1 q.2.1 ∧ HExt n h q.2.1 ∧ Sta q.2.1 q.2.2.1 q.2.2.2.1 q.2.2.2.2.1 q.2.2.2.2.2.1 q.2.2.2.2.2.2 ∧ (q.2.2.2.1 = n ∨ n + 2 ≤ q.2.2.2.1) ∧
      hget q.2.1 (n + 1) = some (strsS P) ∧ q.2.2.2.2.2.2.length = q.1 ∧ (∀ S ∈ q.2.2.2.2.2.2, Valid S ∧ ShR S) ∧ ∀ i, i < q.1 → textS (q.2.2.2.2.2.2.getD i sh0) = blkT P i })
    (fun q => ([(0, .str (S8 s)), (2, .nils), (3, .int .i64 0), (4, .sl q.1.2.2.2.1 0 q.1.1 q.1.2.2.2.2.1), (5, .sl (n + 1) 0 P.length P.length), (16, .sl (n + 1) 0 P.length P.length), (17, .int .i64 P.length), (18, .int .i64 q.1.1)], q.1.2.1, q.1.2.2.1)) (fun q => P.length - q.1.1)
    ⟨(0, _, n + 2, n, 0, Z, []), Nat.zero_le _, Nat.le_refl _, o1, by simp only [go_sem, HExt_cons], Sta1, .inl rfl, by simp only [go_sem], rfl, fun S hS => by simp at hS, fun i hi => absurd hi (Nat.not_lt_zero i)⟩ ?_ ?_
  · refine Imp.id (by show n ≤ n + 2; omega) ?_ (impH.base0 o1 (Nat.le_refl _) (by simp only [go_sem]))
    simp only [go_sem, Nat.reduceLT]
    omega
  rintro ⟨⟨q, hq, nq, j, cap, sc, D⟩, f1, f2, f3, f4, f5, f6, f7, f8, f9, f10⟩
  simp only at f1 f2 f3 f4 f5 f6 f7 f8 f9 f10
  have f12 : n + 1 < nq := by omega
  have f13 := f5.lt
  have f5s := f5.seg
  have f5l := f5.le
  have f5c := f5.cap
  have f5a := f5.arg
  rw [f8] at f5s f5l f5a
  have hDR : StR D := fun i hi => by
    rw [← getE_D D sh0 hi]; exact (f9 _ (List.getElem_mem _)).2
  simp only [go_sem, Nat.reduceLT, decide_eq_true_eq, decide_eq_false_iff_not]
  refine ⟨fun hq1 => ?_, fun hq1 => ?_⟩
  rotate_left
  · have eq1 : q = P.length := by omega
    have hgD : (∃ M, StOk M ∧ StR M ∧ s = Lib.join (M.map textS) [10]) → StOk D ∧ Lib.join (D.map textS) [10] = s := fun ⟨M, m1, m2, m3⟩ => by
      have hP := hgood M m1 m3
      have hl : D.length = M.length := by rw [f8, eq1, hP, pcsL_len]
      have e := map_ext hl fun i hi => by rw [f10 i (by omega), hP, blkT_good m1.valid (by omega)]
      obtain ⟨g1, g2⟩ := texts_inj (fun S hS => (f9 S hS).1) (fun S hS => (f9 S hS).2) m1.valid (stR_mem m2) e
      exact ⟨stOk_of m1 (fun S hS => (f9 S hS).1) g1 g2, by rw [e, ← m3]⟩
    have hnil := hK .nils hq nq (by omega) f4 f3
    refine (validStack_Q _ _ _ _ D f5a hDR (by omega)).A ?_
    by_cases hk : StOk D
    · rw [stokB_t hk]
      simp only [go_sem, Nat.reduceLT, f13]
      refine (stackText_Q _ _ _ (hT.sub _ _) _ D f5a hDR (by omega)).A ?_
      have hst : stText D = Lib.join (D.map textS) [10] := by unfold stText; rw [if_pos (stokB_t hk)]
      rw [hst]
      by_cases hfin : Lib.join (D.map textS) [10] = s
      · have hI2 : RkIs s D 0 := .inl ⟨rfl, hk, hDR, hfin.symm⟩
        obtain ⟨rfl, g1, g2⟩ := hI2.two hI
        simp only [go_sem, Nat.reduceLT, hS8, hfin, f13]
        have := (f5.out (lo := n) (by omega)).congr g1 g2
        rw [f8] at this
        exact hK _ _ _ (by omega) f4 f3 this
      · obtain ⟨rfl, rfl⟩ := hno fun e => hfin (hgD e).2
        simp only [go_sem, Nat.reduceLT, hS8, hfin]
        exact hnil (.inl ⟨rfl, rfl⟩)
    · obtain ⟨rfl, rfl⟩ := hno fun e => hk (hgD e).1
      rw [stokB_f hk]
      simp only [go_sem, Nat.reduceLT]
      exact hnil (.inl ⟨rfl, rfl⟩)
  have hql : q < P.length := by omega
  have r1 : (0 : Int) ≤ q ∧ (q : Int) < P.length := ⟨by omega, by omega⟩
  have b2 : q ≤ P.length - 1 := by omega
  have b4 : q + 1 ≤ P.length := by omega
  have hcq : strsC P q = .str (S8 (P.getD q [])) := rfl
  have wP : IntKind.i64.wrap ((P.length : Int) - 1) = (P.length : Int) - 1 := w64 (by omega)
  have hpq := hPg q
  have hbl : (blkT P q).length ≤ 1100000 := by
    unfold blkT
    split
    · simp only [List.length_append, List.length_singleton]; omega
    · omega
  obtain ⟨S, d, hS⟩ := rsIs_ex (blkT P q)
  have hgq : (∃ M, StOk M ∧ StR M ∧ s = Lib.join (M.map textS) [10]) → d = 0 := fun ⟨M, m1, m2, m3⟩ => by
    have hP := hgood M m1 m3
    have hqM : q < M.length := by rw [hP, pcsL_len] at hql; exact hql
    refine hS.good ⟨M.getD q sh0, (m1.2 q hqM).1, m2 q hqM, ?_⟩
    rw [hP, blkT_good m1.valid hqM]
  by_cases hlast : q + 1 < P.length
  all_goals first
    | (have hlT : ((q : Int) < (P.length : Int) - 1) = True := eq_true (by omega)
       have hbt : blkT P q = P.getD q [] ++ [10] := by unfold blkT; rw [if_pos hlast]
       simp only [go_sem, Nat.reduceLT, Nat.reduceLeDiff, f7, f12, r1, b2, hPn, b4, hcq, hql, wP, hlT, e10, List.length_append, List.length_singleton]
       refine ⟨by omega, ?_⟩)
    | (have hlF : ((q : Int) < (P.length : Int) - 1) = False := eq_false (by omega)
       have hbt : blkT P q = P.getD q [] := by unfold blkT; rw [if_neg hlast]
       simp only [go_sem, Nat.reduceLT, f7, f12, r1, b2, hPn, b4, hcq, hql, wP, hlF])
  all_goals
    rw [← hbt]
    refine (readSheet_Q _ _ _ (hT.sub _ _) (hM.sub _ _) (hE.sub _ _) (blkT P q) S d hS hbl).A ?_
    rcases hS.code with rfl | rfl
    rotate_left
    · obtain ⟨rfl, rfl⟩ := hno fun e => by have := hgq e; omega
      simp only [go_sem, Nat.reduceLT, Nat.reduceEqDiff, reduceIte, Int.reduceEq]
      exact hK .nils _ _ (by omega) (HExt.cons f4 (by omega)) (fun i t hi => by
        simp only [hget] at hi
        split at hi
        · rename_i e; cases hi; exact ⟨by omega, fun k hk => (shC_flat S k).below _⟩
        · exact ⟨by have := (f3 i t hi).1; omega, fun k hk => SV.lt_mono (by omega) _ ((f3 i t hi).2 k hk)⟩) (.inl ⟨rfl, rfl⟩)
    · obtain ⟨s1, s2, s3⟩ := hS.zero
      simp only [go_sem, Nat.reduceLT, Nat.reduceLeDiff, Nat.reduceEqDiff, reduceIte, f13, f5s]
      refine ⟨⟨f5l, f5c, by omega⟩, fun cap' c1 c2 => ?_⟩
      obtain ⟨k1, k2, k3, k4⟩ := staApp (h := h) (n := n) (cap' := cap') (c1 := shX S) (S := S) (w := some (40, 266)) (t0 := ⟨266, shC S, true, none⟩) f5 f3 f4 (by omega) (by omega) (shX_eq S) (by omega) c2 (fun k hk => shC_flat S k) rfl
      rw [f8] at k1 k2 k3 k4
      have hlen : (D ++ [S]).length = q + 1 := by rw [List.length_append, f8]; rfl
      refine ⟨⟨(q + 1, _, nq + 3, nq + 2, cap', _, D ++ [S]), by show q + 1 ≤ P.length; omega, by show n + 2 ≤ nq + 3; omega, k1, k2, k3, .inr (by show n + 2 ≤ nq + 2; omega), k4 _ _ (by omega) (by omega) f7, hlen, fun T hT => ?_, fun i hi => ?_⟩, by show P.length - (q + 1) < P.length - q; omega, ?_⟩
      · rcases List.mem_append.1 hT with hT | hT
        · exact f9 T hT
        · rw [List.mem_singleton.1 hT]; exact ⟨s1, s2⟩
      · by_cases e : i = q
        · subst e
          have : (D ++ [S]).getD i sh0 = S := by rw [List.getD_eq_getElem?_getD, List.getElem?_append_right (by omega), f8]; simp
          rw [this, ← s3]
        · have : (D ++ [S]).getD i sh0 = D.getD i sh0 := by rw [List.getD_eq_getElem?_getD, List.getD_eq_getElem?_getD, List.getElem?_append_left (by omega)]
          rw [this]
          exact f10 i (by omega)
      · refine Imp.id (by show n ≤ nq + 3; omega) ?_ (impH.base0 k1 (Nat.le_refl _) HExt.rfl)
        simp only [go_sem, Nat.reduceLT, w64 (n := (q : Int) + 1) (by omega), Int.natCast_add, Int.natCast_one]
        omega
end
end Go.Proofs.YtkanbbfddlhlcaaGreatDoor.V
