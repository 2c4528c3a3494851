/- Part 5 of the texts that this proof stands on: a symbolic walk over the program, what its functions and the reference's do, plain laws. -/
import Derived.Test.YtckefhnobflhcaaDoorZppd
import Derived.Test.YtckefhnobflhcaaDoorV20
import Derived.Test.YtckefhnobflhcaaDoorSh
import Derived.Test.YtckefhnobflhcaaDoorTi
import Derived.Test.YtckefhnobflhcaaDoorZppa
import Derived.Lib.Replace
import Derived.Laws.IdiomStrings
import Derived.Lib.SmallJoins
import Derived.Test.YtckefhnobflhcaaDoorZppb
import Derived.Test.YtckefhnobflhcaaDoorZppc
import Derived.Test.YtckefhnobflhcaaDoorRows
import Derived.Test.YtckefhnobflhcaaDoorV14
import Derived.ProofKit
import Derived.LaidMore
import Derived.OpenShut
import Derived.Stop.Joined
import Derived.Stop.LaidErr
import Derived.Shelf.Vars
import Derived.Lay
set_option linter.all false

/- strings.Join and strings.Builder: contracts (out of the kit's shelf), and a quiet call walked in a frame of its own. -/
namespace Go.Proofs.YtckefhnobflhcaaDoor.V
/-- A string, by its bytes. -/
def S8 (b : List UInt8) : ByteArray := ⟨b.toArray⟩
@[go_sem] theorem S8_add (a b : List UInt8) : S8 a ++ S8 b = S8 (a ++ b) := by
  apply ByteArray.ext
  simp [S8]
@[go_sem] theorem S8_size (a : List UInt8) : (S8 a).size = a.length := by simp [S8, ByteArray.size]
theorem S8_list (a : List UInt8) : (S8 a).data.toList = a := by simp [S8]
/-- A memory that may only be read, of which no row is one's own. -/
def roS (s : Seg) : Seg := ⟨s.n, s.c, false, none⟩
def ro (h : List (Nat × Seg)) : List (Nat × Seg) := h.map fun p => (p.1, roS p.2)
theorem hget_ro (h : List (Nat × Seg)) (i : Nat) : hget (ro h) i = (hget h i).map roS := by
  induction h with
  | nil => rfl
  | cons p h ih =>
    obtain ⟨k, s⟩ := p
    show (if k = i then some (roS s) else hget (ro h) i) = _
    simp only [hget]
    by_cases e : k = i
    · rw [if_pos e, if_pos e]; rfl
    · rw [if_neg e, if_neg e]; exact ih
theorem ro_some {h : List (Nat × Seg)} {i : Nat} {s : Seg} (hs : hget h i = some s) : hget (ro h) i = some (roS s) := by rw [hget_ro, hs]; rfl
/-- A quiet call may be walked in a frame of its own. -/
theorem callQ_fresh {P : Program} {cx : Cx} {f : Nat} {args : List SV} {h : List (Nat × Seg)} {n : Nat} {r : SV} (hrl : r.lt n)
    (hc : ∀ w0, CallE P ⟨w0, Noth, 0, n⟩ f args (ro h) n fun v _ _ => v = r) : CallQ P cx f args h n r := by
  have h0 := hc (⟨#[], fun _ => fun _ => 0, 0, default, default⟩ : World)
  refine ⟨h0.1, h0.2.1, hrl, fun ρ w sh hargs => ?_⟩
  have sub : ∀ i t, hget (ro h) i = some t → ∃ s, hget h i = some s ∧ t = roS s := fun i t ht => by
    rw [hget_ro] at ht
    cases hs : hget h i with
    | none => rw [hs] at ht; cases ht
    | some s => rw [hs] at ht; cases ht; exact ⟨s, rfl, rfl⟩
  have sh' : SatH ⟨w, Noth, 0, n⟩ ρ (ro h) n w := by
    refine ⟨Keeps.refl _ _, fun i t ht => ?_, fun i j x y hij hx hy hw => ?_, fun i t ht => ?_⟩
    · obtain ⟨s, hs, rfl⟩ := sub i t ht
      have := sh.seg i s hs
      exact ⟨this.blk, this.cells, (fun e => by cases e), (fun _ _ e => by cases e)⟩
    · obtain ⟨s, hs, rfl⟩ := sub i x hx
      rcases hw with e | e <;> cases e
    · obtain ⟨s, hs, rfl⟩ := sub i t ht
      exact sh.lt i s hs
  refine ((hc w).2.2 ρ w sh' hargs).mono fun e w' he => ?_
  obtain ⟨ρ', v, h', n', h1, h2, rfl, h4, h5, rfl⟩ := he
  exact ⟨by rw [den_congr h1 _ hrl], sh.keep h5.keeps⟩
/-- Strings in a row. -/
def strsC (L : List (List UInt8)) : Nat → SV := fun k => .str (S8 (L.getD k []))
section
variable (cx : Cx) (h : List (Nat × Seg)) (n : Nat)
theorem join_Q (i cap : Nat) (L : List (List UInt8)) (sep : List UInt8) (s : Seg) (hs : hget h i = some s) (hi : i < n) (hn : L.length ≤ s.n) (hc : ∀ k, k < L.length → s.c k = strsC L k) (hcap : L.length ≤ cap) (h9 : L.length ≤ 1000000)
    (hl : (Lib.join L sep).length ≤ 100000000) : CallQ Tryd.prog cx 32 [.sl i 0 L.length cap, .str (S8 sep)] h n (.str (S8 (Lib.join L sep))) := by
  refine ⟨Tryd.call32, by simp only [go_sem, and_self], trivial, fun ρ w sh _ => ?_⟩
  have hseg := sh.seg i s hs
  have e1 : (L.map S8).map (·.data.toList) = L := by
    rw [List.map_map]
    have : ((fun x : ByteArray => x.data.toList) ∘ S8) = id := by funext a; exact S8_list a
    rw [this, List.map_id]
  have := Tryd.strings_Join (ρ i).1 (ρ i).2 cap (L.map S8) (S8 sep) w (fun j x hx => by
    rw [List.getElem?_map] at hx
    cases hL : L[j]? with
    | none => rw [hL] at hx; cases hx
    | some b =>
      rw [hL] at hx
      cases hx
      have hj : j < L.length := (List.getElem?_eq_some_iff.1 hL).1
      have := hseg.cells j (by omega)
      rw [hc j hj] at this
      rw [this]
      show some (Value.string (S8 (L.getD j []))) = _
      rw [List.getD_eq_getElem?_getD, hL]; rfl) hseg.blk (by rw [List.length_map]; omega) (by rw [List.length_map]; exact hcap) (by rw [e1, S8_list]; omega)
  rw [e1, S8_list, List.length_map] at this
  refine this.mono fun e w' he => ⟨he.1, sh.keep (Keeps.of_below he.2)⟩
/-- What lies in the memory of a builder that holds some bytes. -/
def Bld (h : List (Nat × Seg)) (lo n i : Nat) (b : List UInt8) : Prop :=
  ∃ p V, hget h i = some ⟨2, cl [p, V], true, some (92, 2)⟩ ∧ (p = .raw (.pointer none) ∨ p = .ptr i 0) ∧ lo ≤ i ∧ i < n ∧
    ((V = .nils ∧ b = []) ∨ ∃ j cap sg, V = .sl j 0 b.length cap ∧ lo ≤ j ∧ j ≠ i ∧ j < n ∧ hget h j = some sg ∧ sg.own = some (5, cap) ∧ sg.rw = true ∧ b.length ≤ cap ∧ cap ≤ maxLen ∧ 0 < cap ∧ b.length ≤ sg.n ∧ ∀ k, k < b.length → sg.c k = bytesC b k)
theorem copyCheck_E (i : Nat) (p V : SV) (hs : hget h i = some ⟨2, cl [p, V], true, some (92, 2)⟩) (hp : p = .raw (.pointer none) ∨ p = .ptr i 0) (hi : i < n) (K : HK)
    (hK : K (.tup 0 (cl [])) (hset h i ⟨2, cl [.ptr i 0, V], true, some (92, 2)⟩) n) : CallE Tryd.prog cx 71 [.ptr i 0] h n K := by
  refine ⟨Tryd.call71, by simp only [go_sem, and_self], fun ρ w sh _ => ?_⟩
  have hseg := sh.seg i _ hs
  obtain ⟨hz, hbase, cur, hheap, hcur⟩ := hseg.own _ _ rfl
  have hc0 : w.cell? ⟨(ρ i).1, 0, none⟩ = some (den ρ p) := by
    have := hseg.cells 0 (by show 0 < 2; omega)
    rw [hz] at this
    exact this
  have hf0 : w.frozen? ⟨(ρ i).1, 0, none⟩ = false := by
    have := (hseg.rwf rfl 0 (by show 0 < 2; omega)).1
    rw [hz] at this
    exact this
  have hsh : w.shape? (ρ i).1 = some (92, 2) := by simp [World.shape?, hheap, hcur]
  have ea : [SV.ptr i 0].map (den ρ) = [.pointer (some ⟨(ρ i).1, 0, none⟩)] := by simp [den, hz]
  rw [ea]
  rcases hp with rfl | rfl
  · refine (Any.Builder_copyCheck_fresh Tryd.lay156_240 Tryd.Builder_Extra_156.toX72 (ρ i).1 w hc0 hsh hf0).mono fun e w' he => ?_
    obtain ⟨rfl, rfl⟩ := he
    obtain ⟨_, _, h3⟩ := sh.set1 hs rfl (o := 0) (by show 0 < 2; omega) (v := .ptr i 0) hi
    rw [hz] at h3
    have eu : upd (cl [SV.raw (.pointer none), V]) 0 (.ptr i 0) = cl [.ptr i 0, V] := by
      funext k
      match k with
      | 0 => rfl
      | 1 => rfl
      | k + 2 => rfl
    simp only [eu] at h3
    refine ⟨ρ, .tup 0 (cl []), _, n, fun _ _ => rfl, Nat.le_refl _, rfl, fun j hj => absurd hj (Nat.not_lt_zero j), ?_, hK⟩
    have ed : den ρ (.ptr i 0) = .pointer (some ⟨(ρ i).1, 0, none⟩) := by simp [den, hz]
    rw [ed] at h3
    exact h3
  · have ed : den ρ (.ptr i 0) = .pointer (some ⟨(ρ i).1, 0, none⟩) := by simp [den, hz]
    rw [ed] at hc0
    refine (Any.Builder_copyCheck_used Tryd.lay156_240 Tryd.Builder_Extra_156.toX72 (ρ i).1 w hc0).mono fun e w' he => ?_
    obtain ⟨rfl, rfl⟩ := he
    rw [hset_self hs] at hK
    exact ⟨ρ, .tup 0 (cl []), h, n, fun _ _ => rfl, Nat.le_refl _, rfl, fun j hj => absurd hj (Nat.not_lt_zero j), sh, hK⟩
theorem bldString_E (lo i : Nat) (b : List UInt8) (hB : Bld h lo n i b) (hb : b ≠ []) (K : HK) (hK : K (.str (S8 b)) [] n) : CallE Tryd.prog cx 61 [.ptr i 0] h n K := by
  obtain ⟨p, V, hs, hp, h1, h2, hV⟩ := hB
  rcases hV with ⟨_, e⟩ | ⟨j, cap, sg, rfl, j1, j2, j3, j4, j5, j6, j7, j8, j9, j10, j11⟩
  · exact absurd e hb
  refine ⟨Tryd.call61, by simp only [go_sem, and_self], fun ρ w sh _ => ?_⟩
  have hseg := sh.seg i _ hs
  obtain ⟨hz, hbase, cur, hheap, hcur⟩ := hseg.own _ _ rfl
  have hsegj := sh.seg j _ j4
  obtain ⟨hzj, hbasej, curj, hheapj, hcurj⟩ := hsegj.own _ _ j5
  have ea : [SV.ptr i 0].map (den ρ) = [.pointer (some ⟨(ρ i).1, 0, none⟩)] := by simp [den, hz]
  rw [ea]
  have hcells : cur = #[den ρ p, .slice (some ⟨(ρ j).1, 0, none⟩) b.length cap] := by
    have c0 := hseg.cells 0 (by show 0 < 2; omega)
    have c1 := hseg.cells 1 (by show 1 < 2; omega)
    simp only [World.cell?, hheap, hz, Nat.zero_add] at c0 c1
    have c0 : cur[0]? = some (den ρ p) := by simpa [cl] using c0
    have c1 : cur[1]? = some (den ρ (.sl j 0 b.length cap)) := by simpa [cl] using c1
    apply Array.ext_getElem?
    intro k
    match k with
    | 0 => rw [c0]; rfl
    | 1 => rw [c1]; simp [den, hzj]
    | k + 2 => rw [Array.getElem?_eq_none (by omega), Array.getElem?_eq_none (by simp)]
  have hdisj : (ρ i).1 ≠ (ρ j).1 := by
    rcases sh.dis i j _ _ (Ne.symm j2) hs j4 (.inl rfl) with e | ⟨e, _⟩
    · exact e
    · cases e
  have hIs : Lib.IsBuilder 92 5 cx.w0.heap.size (ρ i).1 (Lib.byteCells b) w := by
    have hat : Lib.BuilderAt 92 5 cx.w0.heap.size (ρ i).1 (den ρ p) (Lib.byteCells b) w := by
      refine ⟨hbase, .slice (some ⟨(ρ j).1, 0, none⟩) b.length cap, by rw [hheap, hcells], ⟨by rw [Lib.byteCells_length, Nat.mul_one], .inr ⟨(ρ j).1, cap, curj, by rw [Lib.byteCells_length], hbasej, hheapj, by rw [Lib.byteCells_length]; exact j7, j8, by rw [hcurj, Nat.mul_one], ?_⟩⟩, by simp [Value.ownBlock]; exact Ne.symm hdisj⟩
      rw [Lib.byteCells_length, Nat.mul_one]
      apply List.ext_getElem?
      intro k
      by_cases hk : k < b.length
      · rw [List.getElem?_take_of_lt hk, Array.getElem?_toList]
        have := hsegj.cells k (by omega)
        simp only [World.cell?, hheapj, hzj, Nat.zero_add] at this
        have h3 : curj[k]? = some (den ρ (bytesC b k)) := by rw [← j11 k hk]; simpa using this
        rw [h3]
        unfold Lib.byteCells bytesC
        rw [List.getElem?_map, List.getElem?_eq_getElem hk, List.getD_eq_getElem?_getD, List.getElem?_eq_getElem hk]
        rfl
      · rw [List.getElem?_eq_none (by simp; omega), List.getElem?_eq_none (by rw [Lib.byteCells_length]; omega)]
    rcases hp with rfl | rfl
    · exact .inl hat
    · have ed : den ρ (.ptr i 0) = .pointer (some ⟨(ρ i).1, 0, none⟩) := by simp [den, hz]
      rw [ed] at hat
      exact .inr hat
  refine (Tryd.Builder_String cx.w0.heap.size (ρ i).1 b w hIs hb).mono fun e w' he => ?_
  obtain ⟨rfl, hbel⟩ := he
  refine ⟨ρ, .str (S8 b), [], n, fun _ _ => rfl, Nat.le_refl _, rfl, trivial, ⟨⟨hbel.os.trans sh.keeps.os, hbel.tape.trans sh.keeps.tape, hbel.output.trans sh.keeps.output, Nat.le_trans sh.keeps.size hbel.size, fun x hx => ?_⟩, fun i t ht => (by cases ht), fun i j x y _ hx => (by cases hx), fun i t ht => (by cases ht)⟩, hK⟩
  exact (sh.keeps.blk x hx).trans (W' := cx.W x) (ObjK.of_eq (hbel.block x hx)) fun _ h => h
end
end Go.Proofs.YtckefhnobflhcaaDoor.V

/- WriteString: the walk. -/
namespace Go.Proofs.YtckefhnobflhcaaDoor.V
@[go_sem] theorem ofV_nilIface : ofV .nilIface = .raw .nilIface := rfl
theorem u8_U8 : U8 (ti 5) := ⟨rfl, rfl, rfl, rfl⟩
section
variable (cx : Cx) (h : List (Nat × Seg)) (n : Nat)
theorem writeStr_E (lo i : Nat) (b s : List UInt8) (hB : Bld h lo n i b) (h0 : 0 < s.length) (h9 : b.length + s.length ≤ 1000000000) (K : HK)
    (hK : ∀ h' n', n ≤ n' → HExt lo h h' → HOk n' h' → Bld h' lo n' i (b ++ s) → K (.tup 2 (cl [.int .i64 s.length, .raw .nilIface])) h' n') :
    CallE Tryd.prog cx 60 [.ptr i 0, .str (S8 s)] h n K := by
  obtain ⟨p, V, hs, hp, h1, h2, hV⟩ := hB
  refine CallE.hokE ?_
  refine callE_of_T (P := Tryd.prog) hti (nt := 19) (rs := [.tmp 4, .tmp 5]) rfl rfl Tryd.call60 Tryd.func60 rfl _ (by simp only [go_sem, and_self]) (Nat.le_of_ble_eq_true rfl) _ fun hok => ?_
  simp only [go_sem, Nat.reduceLT]
  refine callA_false (copyCheck_E _ _ _ i p V hs hp h2 _ ?_)
  have hs1 := hget_hset_self hs ⟨2, cl [.ptr i 0, V], true, some (92, 2)⟩
  have ok1 : HOk n (hset h i ⟨2, cl [.ptr i 0, V], true, some (92, 2)⟩) := HOk.hset hok fun k hk => by
    have hk : k < 2 := hk
    match k with
    | 0 => exact h2
    | 1 => exact (hok i _ hs).2 1 (by show 1 < 2; omega)
    | k + 2 => omega
  rcases hV with ⟨rfl, rfl⟩ | ⟨j, cap, sg, rfl, j1, j2, j3, j4, j5, j6, j7, j8, j9, j10, j11⟩
  · have hsz : (S8 s).size = s.length := S8_size s
    simp only [go_sem, Nat.reduceLT, reduceCtorEq, hs1, h2]
    refine ⟨rfl, strNil_sem hti (e := 5) (s := S8 s) rfl (by simp [dok]) rfl rfl u8_U8 rfl rfl (by omega) (by omega) fun cap c1 c2 => ?_⟩
    rw [hsz] at c1
    rw [S8_list, hsz]
    have hmi : (n == i) = false := by simp; omega
    have hsi : hget ((n, ⟨s.length, bytesC s, true, some (5, cap)⟩) :: hset h i ⟨2, cl [.ptr i 0, .nils], true, some (92, 2)⟩) i = some ⟨2, cl [.ptr i 0, .nils], true, some (92, 2)⟩ := by simp only [hget]; rw [if_neg (by omega)]; exact hs1
    have hli : i < n + 1 := by omega
    simp only [go_sem, Nat.reduceLT, Nat.reduceEqDiff, reduceIte, reduceCtorEq, hsi, hli]
    refine fun ok' => hK _ (n + 1) (by omega) (fun z hz t ht => ?_) ok' ?_
    · rw [hget_hset, if_neg (by omega)]
      simp only [hget]
      rw [if_neg (by omega), hget_hset, if_neg (by omega)]
      exact ht
    · rw [List.nil_append]
      refine ⟨.ptr i 0, .sl n 0 s.length cap, hget_hset_self hsi _, .inr rfl, h1, by omega, .inr ⟨n, cap, ⟨s.length, bytesC s, true, some (5, cap)⟩, rfl, by omega, by omega, by omega, ?_, rfl, rfl, c1, c2, by omega, Nat.le_refl _, fun _ _ => rfl⟩⟩
      rw [hget_hset, if_neg (by omega)]
      exact hget_hit _ _ _
  · have hsz : (S8 s).size = s.length := S8_size s
    have hj1 : hget (hset h i ⟨2, cl [.ptr i 0, .sl j 0 b.length cap], true, some (92, 2)⟩) j = some sg := by rw [hget_hset, if_neg (Ne.symm j2)]; exact j4
    simp only [go_sem, Nat.reduceLT, reduceCtorEq, hs1, h2]
    refine ⟨rfl, strOwn_sem hti (e := 5) (s := S8 s) (b := b) (sg := sg) rfl (by simp [dok]) rfl rfl u8_U8 rfl rfl (by omega) hj1 j5 j7 j8 j9 j10 rfl j11 fun cap' c1 c2 => ?_⟩
    rw [hsz] at c1
    rw [S8_list, hsz]
    have hsi : hget ((n, ⟨b.length + s.length, bytesC (b ++ s), true, some (5, cap')⟩) :: hdel (hset h i ⟨2, cl [.ptr i 0, .sl j 0 b.length cap], true, some (92, 2)⟩) j) i = some ⟨2, cl [.ptr i 0, .sl j 0 b.length cap], true, some (92, 2)⟩ := by simp only [hget]; rw [if_neg (by omega), hget_hdel, if_neg j2]; exact hs1
    have hli : i < n + 1 := by omega
    simp only [go_sem, Nat.reduceLT, Nat.reduceEqDiff, reduceIte, reduceCtorEq, hsi, hli]
    refine fun ok' => hK _ (n + 1) (by omega) (fun z hz t ht => ?_) ok' ?_
    · rw [hget_hset, if_neg (by omega)]
      simp only [hget]
      rw [if_neg (by omega), hget_hdel, if_neg (by omega), hget_hset, if_neg (by omega)]
      exact ht
    · refine ⟨.ptr i 0, .sl n 0 (b.length + s.length) cap', hget_hset_self hsi _, .inr rfl, h1, by omega, .inr ⟨n, cap', ⟨b.length + s.length, bytesC (b ++ s), true, some (5, cap')⟩, by rw [List.length_append], by omega, by omega, by omega, ?_, rfl, rfl, by rw [List.length_append]; exact c1, c2, by omega, by rw [List.length_append]; exact Nat.le_refl _, fun _ _ => rfl⟩⟩
      rw [hget_hset, if_neg (by omega)]
      exact hget_hit _ _ _
end
end Go.Proofs.YtckefhnobflhcaaDoor.V

/- The lines of a sheet's text: the walk. -/
namespace Go.Proofs.YtckefhnobflhcaaDoor.V
def rowL (W : Nat) (sep : List UInt8) (wd : Nat → Nat → List UInt8) (y : Nat) : List UInt8 := Lib.join ((List.range W).map fun x => wd x y) sep
/-- A text with a line for each row. -/
def linesK (W : Nat) (sep : List UInt8) (wd : Nat → Nat → List UInt8) : Nat → List UInt8
  | 0 => []
  | k + 1 => linesK W sep wd k ++ (rowL W sep wd k ++ [10])
theorem joinTail_le (sep : List UInt8) (m : Nat) : ∀ (L : List (List UInt8)), (∀ a ∈ L, a.length ≤ m) → (Lib.joinTail sep L).length ≤ L.length * (m + sep.length)
  | [], _ => by simp [Lib.joinTail]
  | a :: L, h => by
    have ih := joinTail_le sep m L fun b hb => h b (List.mem_cons_of_mem _ hb)
    have h1 := h a (List.mem_cons_self ..)
    have e : Lib.joinTail sep (a :: L) = (sep ++ a) ++ Lib.joinTail sep L := by simp [Lib.joinTail]
    rw [e, List.length_append, List.length_append, List.length_cons, Nat.add_mul]
    omega
theorem join_le (sep : List UInt8) (m : Nat) (L : List (List UInt8)) (h : ∀ a ∈ L, a.length ≤ m) : (Lib.join L sep).length ≤ L.length * (m + sep.length) := by
  cases L with
  | nil => simp [Lib.join_nil]
  | cons a L =>
    have ih := joinTail_le sep m L fun b hb => h b (List.mem_cons_of_mem _ hb)
    have h1 := h a (List.mem_cons_self ..)
    rw [Lib.join_cons, List.length_append, List.length_cons, Nat.add_mul]
    omega
theorem rowL_le {W : Nat} {sep : List UInt8} {wd : Nat → Nat → List UInt8} (hs : sep.length ≤ 10) (hw : ∀ x y, (wd x y).length ≤ 1000) (hW : W ≤ 8) (y : Nat) : (rowL W sep wd y).length ≤ 8080 := by
  unfold rowL
  have := join_le sep 1000 ((List.range W).map fun x => wd x y) (fun a ha => by
    obtain ⟨x, _, rfl⟩ := List.mem_map.1 ha
    exact hw x y)
  rw [List.length_map, List.length_range] at this
  have h2 : W * (1000 + sep.length) ≤ 8 * 1010 := Nat.mul_le_mul hW (by omega)
  omega
theorem linesK_le {W : Nat} {sep : List UInt8} {wd : Nat → Nat → List UInt8} (hs : sep.length ≤ 10) (hw : ∀ x y, (wd x y).length ≤ 1000) (hW : W ≤ 8) : ∀ k, (linesK W sep wd k).length ≤ 9000 * k
  | 0 => by simp [linesK]
  | k + 1 => by
    have ih := linesK_le hs hw hW k
    have := rowL_le hs hw hW k
    rw [linesK, List.length_append, List.length_append, List.length_singleton]
    omega
/-- A list of strings to which one may append. -/
def StrO (h : List (Nat × Seg)) (lo n : Nat) (V : SV) (L : List (List UInt8)) : Prop :=
  ∃ j cap s, V = .sl j 0 L.length cap ∧ lo ≤ j ∧ j < n ∧ hget h j = some s ∧ s.own = some (9, cap) ∧ s.rw = true ∧ s.n = L.length ∧ L.length ≤ cap ∧ cap ≤ maxLen ∧ ∀ k, k < L.length → s.c k = strsC L k
theorem strApp1 {h hq : List (Nat × Seg)} {n nq jv cap : Nat} {A : List (List UInt8)} {a : List UInt8} {sc c1 : Nat → SV} {w : Option (Nat × Nat)} (I1 : n ≤ nq) (I2 : HOk nq hq) (I3 : HExt n h hq) (v1 : n ≤ jv) (c10 : c1 0 = .str (S8 a))
    (v9 : ∀ k, k < A.length → sc k = strsC A k) (m1 : A.length + 1 ≤ cap) (m2 : cap ≤ maxLen) :
    HOk (nq + 2) ((nq + 1, ⟨A.length + 1, both A.length sc (news c1 0), true, some (9, cap)⟩) :: (nq, ⟨1, c1, true, w⟩) :: hdel hq jv) ∧
    HExt n h ((nq + 1, ⟨A.length + 1, both A.length sc (news c1 0), true, some (9, cap)⟩) :: (nq, ⟨1, c1, true, w⟩) :: hdel hq jv) ∧
    StrO ((nq + 1, ⟨A.length + 1, both A.length sc (news c1 0), true, some (9, cap)⟩) :: (nq, ⟨1, c1, true, w⟩) :: hdel hq jv) n (nq + 2) (.sl (nq + 1) 0 (A.length + 1) cap) (A ++ [a]) := by
  have hbo : ∀ k, k < A.length + 1 → both A.length sc (news c1 0) k = strsC (A ++ [a]) k := fun k hk => by
    unfold both news
    split
    · rename_i hk2
      rw [v9 k hk2]
      unfold strsC
      rw [List.getD_eq_getElem?_getD, List.getD_eq_getElem?_getD, List.getElem?_append_left hk2]
    · rename_i hk2
      have e : k = A.length := by omega
      subst e
      rw [Nat.sub_self, Nat.zero_add, c10]
      unfold strsC
      simp
  have okd : HOk nq (hdel hq jv) := fun i t hi => by
    rw [hget_hdel] at hi
    split at hi
    · cases hi
    · exact I2 i t hi
  refine ⟨fun i t hi => ?_, fun z hz t ht => ?_, nq + 1, cap, _, by rw [List.length_append]; rfl, by omega, by omega, hget_hit _ _ _, rfl, rfl, by rw [List.length_append]; rfl, by rw [List.length_append]; exact m1, m2, fun k hk => hbo k (by rw [List.length_append] at hk; exact hk)⟩
  · simp only [hget] at hi
    split at hi
    · rename_i e; cases hi
      refine ⟨by omega, fun k hk => ?_⟩
      show (both A.length sc (news c1 0) k).lt _
      rw [hbo k hk]; trivial
    · split at hi
      · rename_i e; cases hi
        refine ⟨by omega, fun k hk => ?_⟩
        have hk : k < 1 := hk
        have e : k = 0 := by omega
        subst e
        show (c1 0).lt _
        rw [c10]; trivial
      · exact ⟨by have := (okd i t hi).1; omega, fun k hk => SV.lt_mono (by omega) _ ((okd i t hi).2 k hk)⟩
  · simp only [hget]
    rw [if_neg (by omega), if_neg (by omega), hget_hdel, if_neg (by omega)]
    exact I3 z hz t ht
theorem Bld.ext {h h' : List (Nat × Seg)} {lo n n' i : Nat} {b : List UInt8} (hB : Bld h lo n i b) (hn : n ≤ n') (hx : HExt n h h') : Bld h' lo n' i b := by
  obtain ⟨p, V, hs, hp, h1, h2, hV⟩ := hB
  refine ⟨p, V, hx i h2 _ hs, hp, h1, by omega, ?_⟩
  rcases hV with e | ⟨j, cap, sg, e, j1, j2, j3, j4, j5⟩
  · exact .inl e
  · exact .inr ⟨j, cap, sg, e, j1, j2, by omega, hx j j3 _ j4, j5⟩
section
variable (cx : Cx) (h : List (Nat × Seg)) (n : Nat)
set_option maxHeartbeats 1600000 in
theorem lines_E (w0 : World) (j o : Nat) (sg : Seg) (W H : Nat) (sep : List UInt8) (f a b : Nat) (G F : Nat → SV) (wd : Nat → Nat → List UInt8)
    (hs : hget h j = some sg) (hj : j < n) (ho : o + 2 ≤ sg.n) (hw : sg.c o = .int .i8 W) (hh : sg.c (o + 1) = .int .i8 H) (w1 : 1 ≤ W) (hW8 : W ≤ 8) (h1 : 1 ≤ H) (h8 : H ≤ 8) (hsep : sep.length ≤ 10) (hwd : ∀ x y, (wd x y).length ≤ 1000) (hF : (SV.fn f a G b F).lt n)
    (hof : ∀ (x y : Nat), x < W → y < H → ∀ (nt n0 : Nat) (h' : List (Nat × Seg)) (n' : Nat), n ≤ n' → HExt n (ro h) h' → CallQ Tryd.prog ⟨w0, Noth, nt, n0⟩ f (lst a G ++ [spot x y] ++ lst b F) h' n' (.str (S8 (wd x y)))) :
    CallE Tryd.prog ⟨w0, Noth, 0, n⟩ 46 [.ptr j o, .str (S8 sep), .fn f a G b F] (ro h) n fun v _ _ => v = .str (S8 (linesK W sep wd H)) := by
  have hFm : ∀ m, n ≤ m → (∀ j, j < a → (G j).lt m) ∧ ∀ j, j < b → (F j).lt m := fun m hm => ⟨fun j hj => SV.lt_mono hm _ (hF.1 j hj), fun j hj => SV.lt_mono hm _ (hF.2 j hj)⟩
  have hsr : hget (ro h) j = some ⟨sg.n, sg.c, false, none⟩ := ro_some hs
  generalize ro h = hr at *
  refine callE_of_T (P := Tryd.prog) hti (nt := 43) (rs := [.tmp 6]) rfl rfl Tryd.call46 Tryd.func46 rfl _ (by simp only [go_sem, and_self]) (Nat.le_of_ble_eq_true rfl) _ fun hok => ?_
  have b1 : o + 1 ≤ sg.n := by omega
  have b2 : o + 1 + 1 ≤ sg.n := by omega
  have b3 : o ≤ sg.n - 1 := by omega
  have b4 : o + 1 ≤ sg.n - 1 := by omega
  have b5 : 1 ≤ sg.n := by omega
  have b6 : o < sg.n := by omega
  have b7 : o + 1 < sg.n := by omega
  simp only [go_sem, Nat.reduceLT, reduceIte, reduceCtorEq, hsr, hj, hh, b1, b2, b3, b4, b5, b6, b7]
  refine ⟨rfl, ?_⟩
  have ok0 : HOk (n + 1) ((n, ⟨2, cl [.raw (.pointer none), .nils], true, some (92, 2)⟩) :: hr) := fun i t hi => by
    simp only [hget] at hi
    split at hi
    · rename_i e; cases hi
      refine ⟨by omega, fun k hk => ?_⟩
      have hk : k < 2 := hk
      match k with
      | 0 => trivial
      | 1 => trivial
      | k + 2 => omega
    · exact ⟨by have := (hok i t hi).1; omega, fun k hk => SV.lt_mono (by omega) _ ((hok i t hi).2 k hk)⟩
  have B0 : Bld ((n, ⟨2, cl [.raw (.pointer none), .nils], true, some (92, 2)⟩) :: hr) n (n + 1) n [] := ⟨_, _, hget_hit _ _ _, .inl rfl, Nat.le_refl _, by omega, .inl ⟨rfl, rfl⟩⟩
  have X0 : HExt n hr ((n, ⟨2, cl [.raw (.pointer none), .nils], true, some (92, 2)⟩) :: hr) := fun z hz t ht => by simp only [hget]; rw [if_neg (by omega)]; exact ht
  generalize ((n, (⟨2, cl [.raw (.pointer none), .nils], true, some (92, 2)⟩ : Seg)) :: hr) = h0 at *
  refine T_lp (ι := { q : Nat × List (Nat × Seg) × Nat // q.1 ≤ H ∧ n + 1 ≤ q.2.2 ∧ HOk q.2.2 q.2.1 ∧ HExt n hr q.2.1 ∧ Bld q.2.1 n q.2.2 n (linesK W sep wd q.1) })
    (fun q => ([(0, .ptr j o), (1, .str (S8 sep)), (2, .fn f a G b F), (7, .ptr n 0), (15, .int .i8 H), (16, .int .i8 q.1.1)], q.1.2.1, q.1.2.2)) (fun q => H - q.1.1) ⟨(0, h0, n + 1), Nat.zero_le _, Nat.le_refl _, ok0, X0, B0⟩ ?_ ?_
  · refine Imp.id (by show n ≤ n + 1; omega) ?_ (impH.base0 ok0 (Nat.le_refl _) HExt.rfl)
    simp only [go_sem, Nat.reduceLT]
    exact ⟨by omega, hFm _ (by omega), by omega⟩
  rintro ⟨⟨y, hq, nq⟩, hyH, hnq, okq, xq, Bq⟩
  simp only at hyH hnq okq xq Bq
  have sq := xq j hj _ hsr
  have jq : j < nq := by omega
  have hll := linesK_le (wd := wd) hsep hwd hW8 y
  simp only [go_sem, Nat.reduceLT, reduceCtorEq, decide_eq_true_eq, decide_eq_false_iff_not]
  refine ⟨fun hy1 => ?_, fun hy1 => ?_⟩
  rotate_left
  · have e : y = H := by omega
    subst e
    refine callA_false (bldString_E _ _ _ n n _ Bq (by
      obtain ⟨k, rfl⟩ : ∃ k, y = k + 1 := ⟨y - 1, by omega⟩
      rw [linesK]
      simp) _ ?_)
    simp only [go_sem, Nat.reduceLT]
    done
  simp only [go_sem, Nat.reduceLT, sq, jq, hw, b1, b2, b3, b4, b5, b6, b7]
  generalize zrow _ = Z
  have ok1 : HOk (nq + 1) ((nq, ⟨0, Z, true, some (9, 0)⟩) :: hq) := fun i t hi => by
    simp only [hget] at hi
    split at hi
    · rename_i e; cases hi
      exact ⟨by omega, fun k hk => absurd hk (Nat.not_lt_zero k)⟩
    · exact ⟨by have := (okq i t hi).1; omega, fun k hk => SV.lt_mono (by omega) _ ((okq i t hi).2 k hk)⟩
  have X1 : HExt nq hq ((nq, ⟨0, Z, true, some (9, 0)⟩) :: hq) := fun z hz t ht => by simp only [hget]; rw [if_neg (by omega)]; exact ht
  have S1 : StrO ((nq, ⟨0, Z, true, some (9, 0)⟩) :: hq) nq (nq + 1) (.sl nq 0 0 0) [] := ⟨nq, 0, _, rfl, Nat.le_refl _, by omega, hget_hit _ _ _, rfl, rfl, rfl, Nat.le_refl _, Nat.zero_le _, fun k hk => absurd hk (Nat.not_lt_zero k)⟩
  generalize ((nq, (⟨0, Z, true, some (9, 0)⟩ : Seg)) :: hq) = h1 at *
  refine T_lp (ι := { q : Nat × List (Nat × Seg) × Nat × SV // q.1 ≤ W ∧ nq + 1 ≤ q.2.2.1 ∧ HOk q.2.2.1 q.2.1 ∧ HExt nq hq q.2.1 ∧ StrO q.2.1 nq q.2.2.1 q.2.2.2 ((List.range q.1).map fun x => wd x y) })
    (fun q => ([(0, .ptr j o), (1, .str (S8 sep)), (2, .fn f a G b F), (7, .ptr n 0), (15, .int .i8 H), (16, .int .i8 y), (8, .int .i8 y), (9, q.1.2.2.2), (23, .int .i8 W), (24, .int .i8 q.1.1)], q.1.2.1, q.1.2.2.1)) (fun q => W - q.1.1) ⟨(0, h1, nq + 1, .sl nq 0 0 0), Nat.zero_le _, Nat.le_refl _, ok1, X1, S1⟩ ?_ ?_
  · refine Imp.id (by show n ≤ nq + 1; omega) ?_ (impH.base0 ok1 (Nat.le_refl _) HExt.rfl)
    simp only [go_sem, Nat.reduceLT]
    exact ⟨by omega, hFm _ (by omega), by omega, by omega⟩
  rintro ⟨⟨x, hx, nx, V⟩, hxW, hnx, okx, xx, Sx⟩
  simp only at hxW hnx okx xx Sx
  have Xx : HExt n hr hx := xq.tr xx (by omega)
  obtain ⟨jv, capV, ⟨sn, sc, sr, so⟩, rfl, v1, v2, v3, v4, v5, v6, v7, v8, v9⟩ := Sx
  simp only at v4 v5 v6 v9
  subst v4 v5 v6
  have hlx : ((List.range x).map fun x => wd x y).length = x := by simp
  simp only [go_sem, Nat.reduceLT, Nat.reduceLeDiff, decide_eq_true_eq, decide_eq_false_iff_not]
  refine ⟨fun hx1 => ?_, fun hx1 => ?_⟩
  · have nv3 : nx ≠ jv := by omega
    refine (hof x y (by omega) (by omega) _ _ hx nx (by omega) Xx).A ?_
    generalize hL : (List.range x).map (fun x => wd x y) = L at *
    have hL1 : (List.range (x + 1)).map (fun x => wd x y) = L ++ [wd x y] := by rw [List.range_succ, List.map_append, hL]; rfl
    simp only [go_sem, Nat.reduceLT, Nat.reduceLeDiff, v3, v2, nv3]
    refine ⟨⟨v7, v8, by omega⟩, fun cap' m1 m2 => ?_⟩
    generalize hC : upd (zrow _) 0 (SV.str (S8 (wd x y))) = C
    have hC0 : C 0 = .str (S8 (wd x y)) := by rw [← hC]; rfl
    obtain ⟨okN, exN, spN⟩ := strApp1 (n := nq) (h := hq) (nq := nx) (jv := jv) (A := L) (a := wd x y) (sc := sc) (c1 := C) (w := some (9, 1)) (by omega) okx xx v1 hC0 v9 m1 m2
    refine ⟨⟨(x + 1, _, nx + 2, .sl (nx + 1) 0 (L.length + 1) cap'), by show x + 1 ≤ W; omega, by show nq + 1 ≤ nx + 2; omega, okN, exN, by show StrO _ _ _ _ ((List.range (x + 1)).map fun x => wd x y); rw [hL1]; exact spN⟩, by show W - (x + 1) < W - x; omega, ?_⟩
    refine Imp.id (by show n ≤ nx + 2; omega) ?_ (impH.base0 okN (Nat.le_refl _) HExt.rfl)
    simp only [go_sem, Nat.reduceLT, w8 (n := (x : Int) + 1) (by omega), Int.natCast_add, Int.natCast_one]
    exact ⟨by omega, hFm _ (by omega), by omega, by omega⟩
  · have e : x = W := by omega
    subst e
    have hj2 := join_le sep 1000 ((List.range x).map fun x => wd x y) (fun a ha => by
      obtain ⟨x, _, rfl⟩ := List.mem_map.1 ha
      exact hwd x y)
    have hrl := rowL_le (wd := wd) hsep hwd hW8 y
    refine (join_Q _ _ _ jv capV ((List.range x).map fun x => wd x y) sep _ v3 v2 (Nat.le_refl _) v9 v7 (by omega) (by unfold rowL at hrl; omega)).A ?_
    have e10 : (⟨#[10]⟩ : ByteArray) = S8 [10] := rfl
    simp only [go_sem, Nat.reduceLT, Nat.reduceLeDiff, e10]
    have hrl2 : (Lib.join ((List.range x).map fun x => wd x y) sep).length ≤ 8080 := hrl
    refine ⟨by omega, callA_false (writeStr_E _ hx nx n n (linesK x sep wd y) (Lib.join ((List.range x).map fun x => wd x y) sep ++ [10]) (Bq.ext (by omega) xx) (by rw [List.length_append, List.length_singleton]; omega) (by rw [List.length_append, List.length_singleton]; omega) _ ?_)⟩
    intro h3 n3 hn3 x3 ok3 B3
    simp only [go_sem, Nat.reduceLT]
    refine ⟨⟨(y + 1, h3, n3), by show y + 1 ≤ H; omega, by show n + 1 ≤ n3; omega, ok3, Xx.tr x3 (Nat.le_refl _), B3⟩, by show H - (y + 1) < H - y; omega, ?_⟩
    refine Imp.id (by show n ≤ n3; omega) ?_ (impH.base0 ok3 (Nat.le_refl _) HExt.rfl)
    simp only [go_sem, Nat.reduceLT, w8 (n := (y : Int) + 1) (by omega), Int.natCast_add, Int.natCast_one]
    exact ⟨by omega, hFm _ (by omega), by omega⟩
theorem lines_Q (j o : Nat) (sg : Seg) (W H : Nat) (sep : List UInt8) (f a b : Nat) (G F : Nat → SV) (wd : Nat → Nat → List UInt8)
    (hs : hget h j = some sg) (hj : j < n) (ho : o + 2 ≤ sg.n) (hw : sg.c o = .int .i8 W) (hh : sg.c (o + 1) = .int .i8 H) (w1 : 1 ≤ W) (hW8 : W ≤ 8) (h1 : 1 ≤ H) (h8 : H ≤ 8) (hsep : sep.length ≤ 10) (hwd : ∀ x y, (wd x y).length ≤ 1000) (hF : (SV.fn f a G b F).lt n)
    (hof : ∀ (x y : Nat), x < W → y < H → ∀ (w0 : World) (nt n0 : Nat) (h' : List (Nat × Seg)) (n' : Nat), n ≤ n' → HExt n (ro h) h' → CallQ Tryd.prog ⟨w0, Noth, nt, n0⟩ f (lst a G ++ [spot x y] ++ lst b F) h' n' (.str (S8 (wd x y)))) :
    CallQ Tryd.prog cx 46 [.ptr j o, .str (S8 sep), .fn f a G b F] h n (.str (S8 (linesK W sep wd H))) := by
  exact callQ_fresh trivial fun w0 => lines_E h n w0 j o sg W H sep f a b G F wd hs hj ho hw hh w1 hW8 h1 h8 hsep hwd hF fun x y hx hy => hof x y hx hy w0
end
end Go.Proofs.YtckefhnobflhcaaDoor.V

/- Plain laws: packed pictures: letters, runs; a newline replaced by nothing. -/
namespace Go.Proofs.YtckefhnobflhcaaDoor.V
theorem join_flatJ (L : List (List UInt8)) : Lib.join L [] = L.flatten := by
  cases L with
  | nil => rfl
  | cons a L => rw [Lib.join_cons]; simp [Lib.joinTail]
/-- A newline, struck. -/
theorem strikeK : ∀ s : List UInt8, Lib.replaceK [10] [] (Lib.count s [10]) s = s.filter (· != 10)
  | [] => by rw [Lib.count_miss (by simp [Lib.index])]; rfl
  | b :: l => by
    have ih := strikeK l
    by_cases h : b = 10
    · subst h
      rw [Lib.count_cons_eq, Nat.add_comm, Lib.replaceK_hit _ _ _ _ 0 (by rw [Lib.index]; simp [List.isPrefixOf])]
      simpa using ih
    · have hf : (b :: l).filter (· != 10) = b :: l.filter (· != 10) := by rw [List.filter_cons_of_pos (by simpa using h)]
      rw [Lib.count_cons_ne b 10 l h, hf, ← ih]
      by_cases hk : Lib.count l [10] = 0
      · rw [hk]; rfl
      · obtain ⟨i, hi⟩ := Lib.index_of_count (Nat.pos_of_ne_zero hk)
        have hp : ([10] : List UInt8).isPrefixOf (b :: l) = false := by simp [List.isPrefixOf, Ne.symm h]
        have hix : Lib.index (b :: l) [10] = ((i + 1 : Nat) : Int) := by
          rw [Lib.index, hp, hi, if_neg (by simp), if_neg (by rw [beq_iff_eq]; omega)]; omega
        obtain ⟨k, hk'⟩ : ∃ k, Lib.count l [10] = k + 1 := ⟨Lib.count l [10] - 1, by omega⟩
        rw [hk', Lib.replaceK_hit _ _ _ _ (i + 1) hix, Lib.replaceK_hit _ _ _ _ i hi]
        simp
theorem strike (s : List UInt8) : Lib.replaceAll s [10] [] = s.filter (· != 10) := by
  unfold Lib.replaceAll Lib.replace Lib.replaceNum
  rw [if_neg (by decide), if_pos (by left; decide)]
  exact strikeK s
/-- The letter of a number. -/
def ltr (v : Int) : UInt8 := if v = 0 then 46 else if v = 1 then 97 else if v = 2 then 98 else 99
theorem ltr_ne (v : Int) : (ltr v != 10) = true := by unfold ltr; (repeat' split) <;> rfl
theorem ltr_inj {v w : Int} (h0 : 0 ≤ v ∧ v ≤ 3) (h1 : 0 ≤ w ∧ w ≤ 3) (h : ltr v = ltr w) : v = w := by
  have e : ∀ a b : Fin 4, ltr a.1 = ltr b.1 → a = b := by decide
  have := e ⟨v.toNat, by omega⟩ ⟨w.toNat, by omega⟩ (by rw [show ((v.toNat : Nat) : Int) = v by omega, show ((w.toNat : Nat) : Int) = w by omega]; exact h)
  have := congrArg Fin.val this
  simp only at this
  omega
/-- All letters, row behind row. -/
def ltrs (W : Nat) (v : Nat → Int) (N : Nat) : List UInt8 := (List.range N).map fun k => ltr (v k)
theorem ltrs_len (W : Nat) (v : Nat → Int) (N : Nat) : (ltrs W v N).length = N := by simp [ltrs]
theorem ltrs_get (W : Nat) (v : Nat → Int) (N k : Nat) (h : k < N) : (ltrs W v N).getD k 0 = ltr (v k) := by simp [ltrs, List.getD_eq_getElem?_getD, h]
theorem lines_strike (W : Nat) (wd : Nat → Nat → List UInt8) (v : Nat → Int) (hv : ∀ x y, x < W → wd x y = [ltr (v (y * W + x))]) : ∀ k, (linesK W [] wd k).filter (· != 10) = ltrs W v (k * W)
  | 0 => by simp [linesK, ltrs]
  | k + 1 => by
    have hr : rowL W [] wd k = (List.range W).map fun x => ltr (v (k * W + x)) := by
      unfold rowL
      rw [join_flatJ]
      have : ∀ m, m ≤ W → (((List.range m).map fun x => wd x k).flatten) = (List.range m).map fun x => ltr (v (k * W + x)) := fun m => by
        induction m with
        | zero => intro _; rfl
        | succ m ih =>
          intro hm
          rw [List.range_succ, List.map_append, List.map_append, List.flatten_append, ih (by omega)]
          simp [hv m k (by omega)]
      exact this W (Nat.le_refl _)
    have hf : ∀ L : List Nat, (L.map fun x => ltr (v (k * W + x))).filter (· != 10) = L.map fun x => ltr (v (k * W + x)) := fun L => by
      rw [List.filter_eq_self]
      intro a ha
      obtain ⟨x, _, rfl⟩ := List.mem_map.1 ha
      exact ltr_ne _
    rw [linesK, List.filter_append, List.filter_append, lines_strike W wd v hv k, hr, hf, show ([10] : List UInt8).filter (· != 10) = [] from rfl, List.append_nil]
    unfold ltrs
    rw [Nat.add_mul, Nat.one_mul, List.range_add, List.map_append, List.map_map]
    rfl
/-- The runs of the first i cells: what has been written, and where the run at hand begins. -/
def pkR (dec : Nat → List UInt8) (v : Nat → Int) (N : Nat) : Nat → List UInt8 × Nat
  | 0 => ([], 0)
  | i + 1 => if i + 1 = N ∨ v (i + 1) ≠ v i then ((pkR dec v N i).1 ++ (dec (i + 1 - (pkR dec v N i).2) ++ [ltr (v i)]), i + 1) else pkR dec v N i
theorem pkR_le (dec : Nat → List UInt8) (v : Nat → Int) (N : Nat) : ∀ i, (pkR dec v N i).2 ≤ i
  | 0 => Nat.le_refl _
  | i + 1 => by
    rw [pkR]
    split
    · exact Nat.le_refl _
    · have := pkR_le dec v N i; omega
theorem pkR_len (dec : Nat → List UInt8) (v : Nat → Int) (N : Nat) (hd : ∀ m, m ≤ 64 → (dec m).length ≤ 10) : ∀ i, i ≤ 64 → (pkR dec v N i).1.length ≤ 11 * i
  | 0, _ => by simp [pkR]
  | i + 1, h => by
    have ih := pkR_len dec v N hd i (by omega)
    rw [pkR]
    split
    · have := hd (i + 1 - (pkR dec v N i).2) (by omega)
      simp only [List.length_append, List.length_singleton]
      omega
    · omega
theorem pkR_yes {dec : Nat → List UInt8} {v : Nat → Int} {N i : Nat} (h : i + 1 = N ∨ v (i + 1) ≠ v i) : pkR dec v N (i + 1) = ((pkR dec v N i).1 ++ (dec (i + 1 - (pkR dec v N i).2) ++ [ltr (v i)]), i + 1) := by rw [pkR, if_pos h]
theorem pkR_no {dec : Nat → List UInt8} {v : Nat → Int} {N i : Nat} (h : ¬ (i + 1 = N ∨ v (i + 1) ≠ v i)) : pkR dec v N (i + 1) = pkR dec v N i := by rw [pkR, if_neg h]
end Go.Proofs.YtckefhnobflhcaaDoor.V

/- Numbers' texts: the library's FormatInt at base 10 (out of the kit's shelf), and the reference's Decimal. -/
namespace Go.Proofs.YtckefhnobflhcaaDoor.V
open Go.RowKit
section
variable {P : Program} {ti : Nat → TI} {cx : Cx} {l : List (Nat × SV)} {h : List (Nat × Seg)} {n : Nat} {K : List (Nat × SV) → List (Nat × Seg) → Nat → Prop}
/-- Bytes, as a string. -/
theorem bytes_sem (hti : ∀ t, TyOK P t (ti t)) {o : Oper} {x : Operand} {s t e : Nat} (hop : o.op = .convert s t x) (hd : dok cx.nt o.dst) (hs : (ti s).k = .sl e) (ht : (ti t).k = .str) (he : U8 (ti e)) {b : List UInt8} {j off cap : Nat} {sg : Seg}
    (hx : ev l x = .sl j off b.length cap) (hj : hget h j = some sg) (hls : off + b.length ≤ sg.n) (hcell : ∀ k, k < b.length → sg.c (off + k) = .int .u8 ((b.getD k 0).toNat : Int))
    (hK : K (put l o.dst (.str (S8 b))) h n) : OpSem P cx o l h n K := by
  intro ρ a w st sh hn
  have hu := (hti s).und; rw [hs] at hu
  have hv := (hti t).und; rw [ht] at hv
  have hw := (hti e).und; rw [he.k] at hw
  obtain ⟨e1, _⟩ := ev_sound st x (by rw [hx]; simp)
  rw [hx] at e1
  have hseg := sh.seg j sg hj
  refine upon_value_eq (v := den ρ (.str (S8 b))) (w' := w) ?_ _ _ ⟨ρ, _, _, n, fun _ _ => rfl, st.put _ (.str (S8 b)) trivial (dok_lt hd), sh, hn, hK⟩
  obtain ⟨d, op, ty, pos, af, g⟩ := o
  simp only at hop; subst hop
  have := run_convert_bytes_back (P := P) w s t e ⟨(ρ j).1, (ρ j).2 + off, none⟩ cap b hu hw hv (fun k hk => by
    have := hseg.cells (off + k) (by omega)
    rw [hcell k hk] at this
    have h2 : b.getD k 0 = b[k] := by rw [List.getD_eq_getElem?_getD, List.getElem?_eq_getElem hk]; rfl
    rw [h2] at this
    have ea : Addr.add ⟨(ρ j).1, (ρ j).2 + off, none⟩ k = ⟨(ρ j).1, (ρ j).2 + (off + k), none⟩ := by
      unfold Addr.add
      by_cases e : k = 0
      · subst e; simp
      · simp [e, Nat.add_assoc]
    rw [ea]
    exact this)
  simp [execOp, e1, den]
  rw [this]
  rfl
end
/-- The table of the powers of ten holds what it should, as long as the frame lasts. -/
def TabOk (cx : Cx) : Prop := ∀ w, Keeps cx.W cx.w0 w → Lib.TabIs Tryd.prog w "internal/strconv.uint64pow10" .u64 Lib.pow10Tab
theorem TabOk.to {cx : Cx} (hT : TabOk cx) {ρ : Rho} {h : List (Nat × Seg)} {n : Nat} {w : World} (sh : SatH cx ρ h n w) (nt n0 : Nat) : TabOk ⟨w, Noth, nt, n0⟩ := fun w' k => hT w' (sh.keeps.then k)
theorem TabOk.sub {cx : Cx} (hT : TabOk cx) (nt n0 : Nat) : TabOk ⟨cx.w0, cx.W, nt, n0⟩ := hT
/-- A number's text. -/
def decL (m : Nat) : List UInt8 := Lib.decDigits m
theorem decL_len (m : Nat) (h : m < 10000000000) : (decL m).length ≤ 10 := by
  unfold decL
  rw [Lib.decDigits_length]
  have key : ∀ (k m : Nat), m < 10 ^ (k + 1) → Lib.nDigits m ≤ k + 1 := fun k => by
    induction k with
    | zero => intro m hm; rw [Lib.nDigits_small (by simpa using hm)]; exact Nat.le_refl _
    | succ k ih =>
      intro m hm
      by_cases h10 : m < 10
      · rw [Lib.nDigits_small h10]; omega
      · rw [Lib.nDigits_big h10]
        have := ih (m / 10) (by rw [Nat.pow_succ] at hm; omega)
        omega
  exact key 9 m (by simpa using h)
section
variable (cx : Cx) (h : List (Nat × Seg)) (n : Nat)
theorem format_Q (hT : TabOk cx) (m : Nat) (hm : m < 10000000000) : CallQ Tryd.prog cx 66 [.int .i64 m, .int .i64 10] h n (.str (S8 (decL m))) := by
  refine ⟨Tryd.call66, by simp only [go_sem, and_self], trivial, fun ρ w sh _ => ?_⟩
  refine (Tryd.strconv_FormatInt_10 (m : Int) (by omega) (by omega) w (hT w sh.keeps)).mono fun e w' he => ?_
  obtain ⟨rfl, k, os, rfl⟩ := he
  refine ⟨?_, sh.keep ⟨rfl, rfl, rfl, by simp [Go.Sort.grow], fun b hb => ObjK.of_eq (Go.Sort.heap_grow_old (w.drewN k) os hb)⟩⟩
  have e1 : Lib.itoa (m : Int) = decL m := by unfold Lib.itoa decL; rw [if_neg (by omega)]; rfl
  rw [e1]; rfl
theorem decimal_Q (hT : TabOk cx) (m : Nat) (hm : m < 10000000000) : CallQ Tryd.prog cx 48 [.int .i64 m] h n (.str (S8 (decL m))) := by
  refine callQ_of_T (P := Tryd.prog) hti (nt := 5) (rs := [.tmp 2]) rfl rfl Tryd.call48 Tryd.func48 rfl _ (by simp only [go_sem, and_self]) (Nat.le_of_ble_eq_true rfl) _ (by first | exact trivial | (refine lt_flat rfl ?_; simp [SV.flat]; done) | simp only [go_sem]) fun hok => ?_
  simp only [go_sem, Nat.reduceLT]
  refine (format_Q _ _ _ (hT.sub _ _) m hm).A ?_
  simp only [go_sem, Nat.reduceLT]
set_option maxRecDepth 20000 in
theorem decimal2_Q (m : Nat) (hm : m < 10000000000) : CallQ Tryd.prog cx 50 [.int .i64 m] h n (.str (S8 (decL m))) := by
  induction m using Nat.strongRecOn generalizing cx h n with
  | ind m ih =>
    refine callQ_fresh trivial fun w0 => ?_
    generalize ro h = hr at *
    refine callE_of_T (P := Tryd.prog) hti (nt := 21) (rs := [.tmp 2]) rfl rfl Tryd.call50 Tryd.func50 rfl _ (by simp only [go_sem, and_self]) (Nat.le_of_ble_eq_true rfl) _ fun hok => ?_
    have e0 : IntKind.u8.wrap (IntKind.i64.wrap (48 + (m : Int).tmod 10)) = ((UInt8.ofNat (48 + m % 10)).toNat : Int) := by
      have e1 : (m : Int).tmod 10 = ((m % 10 : Nat) : Int) := by rw [Int.tmod_eq_emod_of_nonneg (by omega)]; omega
      have h9 : m % 10 < 10 := Nat.mod_lt _ (by omega)
      rw [e1]
      generalize m % 10 = r at *
      have : ∀ r : Fin 10, IntKind.u8.wrap (IntKind.i64.wrap (48 + ((r.1 : Nat) : Int))) = ((UInt8.ofNat (48 + r.1)).toNat : Int) := by decide
      exact this ⟨r, h9⟩
    have hdv : (m : Int).tdiv 10 = ((m / 10 : Nat) : Int) := by rw [Int.tdiv_eq_ediv_of_nonneg (by omega)]; omega
    by_cases h10 : m < 10
    · have hd : decide ((m : Int) < 10) = true := by simp; omega
      simp only [go_sem, Nat.reduceLT, Nat.reduceLeDiff, Int.reduceEq, hd, e0]
      refine ⟨rfl, bytes_sem hti (e := 5) (b := [UInt8.ofNat (48 + m % 10)]) rfl (by simp [dok]) rfl rfl u8_U8 rfl (hget_hit _ _ _) (Nat.le_refl _) (fun k hk => ?_) ?_⟩
      · have e : k = 0 := by simpa using hk
        subst e
        rfl
      simp only [go_sem, Nat.reduceLT]
      unfold decL
      rw [Lib.decDigits_one h10, Nat.mod_eq_of_lt h10]
    · have hd : decide ((m : Int) < 10) = false := by simp; omega
      simp only [go_sem, Nat.reduceLT, hd]
      refine T_drawG hti 11 [] (.b 0 0 (.b 0 1 (.b 0 3 (.b 0 4 (.b 0 5 (.b 0 6 (.b 1 2 (.b 2 7 (.b 2 8 (.b 0 9 (.b 0 10 (.f) .o) .o) .o) .o) .o) .o) .o) .o) .o) .o) .o) _ _ (by kernel_rfl) (by kernel_rfl) ?_
      have hdw : IntKind.i64.wrap ((m / 10 : Nat) : Int) = ((m / 10 : Nat) : Int) := w64 (by omega)
      simp only [go_sem, Nat.reduceLT, Int.reduceEq, hdv, hdw]
      refine CallQ.F _ (fun h' n' hn' hx' => ih (m / 10) (by omega) _ h' n' (by omega)) ?_
      simp only [go_sem, Nat.reduceLT, Nat.reduceLeDiff, e0]
      refine ⟨rfl, bytes_sem hti (e := 5) (b := [UInt8.ofNat (48 + m % 10)]) rfl (by simp [dok]) rfl rfl u8_U8 rfl (hget_hit _ _ _) (Nat.le_refl _) (fun k hk => ?_) ?_⟩
      · have e : k = 0 := by simpa using hk
        subst e
        rfl
      simp only [go_sem, Nat.reduceLT, Nat.reduceLeDiff]
      have hl := decL_len (m / 10) (by omega)
      refine ⟨by omega, ?_⟩
      have ed : decL m = decL (m / 10) ++ [UInt8.ofNat (48 + m % 10)] := by
        unfold decL
        conv => lhs; rw [Lib.decDigits, dif_neg h10]
      rw [ed]
end
end Go.Proofs.YtckefhnobflhcaaDoor.V

/- The texts of sheets: a cell's word, both codes: the walks. -/
namespace Go.Proofs.YtckefhnobflhcaaDoor.V
section
variable (cx : Cx) (h : List (Nat × Seg)) (n : Nat)
theorem decimal_I (hT : TabOk cx) (m : Int) (h0 : 0 ≤ m) (h1 : m ≤ 100000) : CallQ Tryd.prog cx 48 [.int .i64 m] h n (.str (S8 (decL m.toNat))) := by
  obtain ⟨k, rfl⟩ := Int.eq_ofNat_of_zero_le h0
  exact decimal_Q _ _ _ hT k (by omega)
theorem decimal2_I (m : Int) (h0 : 0 ≤ m) (h1 : m ≤ 100000) : CallQ Tryd.prog cx 50 [.int .i64 m] h n (.str (S8 (decL m.toNat))) := by
  obtain ⟨k, rfl⟩ := Int.eq_ofNat_of_zero_le h0
  exact decimal2_Q _ _ _ k (by omega)
end
end Go.Proofs.YtckefhnobflhcaaDoor.V

/- Packed pictures: the program's code: the walks. -/
namespace Go.Proofs.YtckefhnobflhcaaDoor.V
/-- What the k-th cell shows. -/
def inkK (P : Pc) (W k : Nat) : Int := P.ink ((k / W : Nat) : Int) ((k % W : Nat) : Int)
def hdP (P : Pc) : List UInt8 := decL P.wide.toNat ++ [120] ++ decL P.high.toNat ++ [32]
def pkP (P : Pc) : List UInt8 := hdP P ++ (pkR decL (inkK P P.wide.toNat) (P.high.toNat * P.wide.toNat) (P.high.toNat * P.wide.toNat)).1
/-- Some number lies in the library's variable MaxLen, as long as the frame lasts. -/
def MaxOk (cx : Cx) : Prop := ∃ m : Int, ∀ w, Keeps cx.W cx.w0 w → w.cell? ⟨0, 0, none⟩ = some (.int .i64 m)
theorem MaxOk.sub {cx : Cx} (hM : MaxOk cx) (nt n0 : Nat) : MaxOk ⟨cx.w0, cx.W, nt, n0⟩ := hM
theorem bt_S8 (L : List UInt8) (k : Nat) (h : k < L.length) : bt (S8 L) k = ((L.getD k 0).toNat : Int) := by
  unfold bt S8
  rw [Int.toNat_natCast, List.getD_eq_getElem?_getD]
  rw [List.getElem?_eq_getElem h]
  have : (⟨L.toArray⟩ : ByteArray)[k]? = some L[k] := by
    rw [getElem?_pos _ _ (by simpa [ByteArray.size] using h)]
    rfl
  rw [this]
  try rfl
theorem ext_S8 (L : List UInt8) (k : Nat) (h : k < L.length) : (S8 L).extract k (k + 1) = S8 [L.getD k 0] := by
  apply ByteArray.ext
  apply Array.toList_inj.1
  rw [ByteArray.data_extract, Array.toList_extract]
  show L.extract k (k + 1) = [L.getD k 0]
  rw [List.extract_eq_drop_take, List.drop_eq_getElem_cons h, List.getD_eq_getElem?_getD, List.getElem?_eq_getElem h, show k + 1 - k = 1 by omega]
  rfl
section
variable (cx : Cx) (h : List (Nat × Seg)) (n : Nat)
theorem strike_Q (hM : MaxOk cx) (s : List UInt8) (hs : s.length ≤ 1000000) : CallQ Tryd.prog cx 54 [.str (S8 s), .str (S8 [10]), .str (S8 [])] h n (.str (S8 (s.filter (· != 10)))) := by
  obtain ⟨m, hm⟩ := hM
  refine ⟨Tryd.call54, by simp only [go_sem, and_self], trivial, fun ρ w sh _ => ?_⟩
  have hsz : (S8 s).size = s.length := S8_size s
  have h0 : (S8 []).size = 0 := rfl
  refine (Tryd.strings_ReplaceAll (S8 s) (S8 [10]) (S8 []) m w (by omega) (hm w sh.keeps) (by show 1 ≤ 1; omega) (by rw [h0, hsz]; omega)).mono fun e w' he => ?_
  obtain ⟨rfl, hb⟩ := he
  refine ⟨?_, sh.keep (Keeps.of_below hb)⟩
  rw [S8_list, S8_list, S8_list, strike]
  rfl
theorem shownG_Q (i : Nat) (s : Seg) (P : Pc) (x y : Int) (hs : hget h i = some s) (hn : s.n = 66) (hc : s.c = pcC P) (hi : i < n) (hx : 0 ≤ x) (hx8 : x < 8) (hy : 0 ≤ y) (hy8 : y < 8) : CallQ Tryd.prog cx 79 [.ptr i 0, spot x y] h n (.int .u8 (P.ink y x)) := by
  obtain ⟨sn, sc, sr, so⟩ := s
  simp only at hn hc
  subst hn hc
  have hne : (n == i) = false := by simp; omega
  refine callQ_of_T (P := Tryd.prog) hti (nt := 15) (rs := [.tmp 4]) rfl rfl Tryd.call79 Tryd.func79 rfl _ (by simp only [go_sem, and_self]) (Nat.le_of_ble_eq_true rfl) _ (by first | exact trivial | (refine lt_flat rfl ?_; simp [SV.flat]; done) | simp only [go_sem]) fun hok => ?_
  simp only [go_sem, Nat.reduceLT]
  refine T_draw hti _ _ (by kernel_rfl) (by kernel_rfl) ?_
  simp only [go_sem, Nat.reduceLT, Nat.reduceLeDiff, reduceCtorEq, hne, hs, hi, hx, hx8, hy, hy8]
set_option maxRecDepth 20000 in
theorem letter_Q (i : Nat) (s : Seg) (P : Pc) (x y : Int) (hs : hget h i = some s) (hn : s.n = 66) (hc : s.c = pcC P) (hi : i < n) (hx : 0 ≤ x) (hx8 : x < 8) (hy : 0 ≤ y) (hy8 : y < 8) (hv : 0 ≤ P.ink y x ∧ P.ink y x ≤ 3) :
    CallQ Tryd.prog cx 69 [.ptr i 0, spot x y] h n (.str (S8 [ltr (P.ink y x)])) := by
  refine callQ_of_T (P := Tryd.prog) hti (nt := 10) (rs := [.tmp 4]) rfl rfl Tryd.call69 Tryd.func69 rfl _ (by simp only [go_sem, and_self]) (Nat.le_of_ble_eq_true rfl) _ (by first | exact trivial | (refine lt_flat rfl ?_; simp [SV.flat]; done) | simp only [go_sem]) fun hok => ?_
  simp only [go_sem, Nat.reduceLT]
  refine (shownG_Q _ _ _ i s P x y (by first | (simp only [go_sem, hs, hi]; done) | (simp only [go_sem, Nat.reduceBEq, Nat.reduceLT, Nat.reduceLeDiff, Nat.reduceAdd, Nat.reduceMul, Nat.reduceSub, Nat.reduceMod, Nat.reduceDiv, Nat.reduceEqDiff, Int.reduceToNat, reduceIte, reduceCtorEq, Int.reduceLE, Int.reduceLT, Int.reduceEq, Int.reduceNeg, Int.reduceAdd, Int.reduceSub, Int.reduceMul, hs, hi]; rfl)) hn hc (by omega) hx hx8 hy hy8).A ?_
  generalize P.ink y x = v at *
  rcases (by omega : v = 0 ∨ v = 1 ∨ v = 2 ∨ v = 3) with rfl | rfl | rfl | rfl
  · simp only [go_sem, Nat.reduceLT, Int.reduceLE, show bt ⟨#[46, 97, 98, 99]⟩ 0 = 46 from rfl]
    refine ⟨by decide, rfl, rune_sem hti (k := .u8) (m := 46) rfl (by simp [dok]) rfl rfl rfl ?_⟩
    rw [show Go.Utf8.encode 46 = S8 [ltr 0] from rfl]
    simp only [go_sem, Nat.reduceLT]
  · simp only [go_sem, Nat.reduceLT, Int.reduceLE, show bt ⟨#[46, 97, 98, 99]⟩ 1 = 97 from rfl]
    refine ⟨by decide, rfl, rune_sem hti (k := .u8) (m := 97) rfl (by simp [dok]) rfl rfl rfl ?_⟩
    rw [show Go.Utf8.encode 97 = S8 [ltr 1] from rfl]
    simp only [go_sem, Nat.reduceLT]
  · simp only [go_sem, Nat.reduceLT, Int.reduceLE, show bt ⟨#[46, 97, 98, 99]⟩ 2 = 98 from rfl]
    refine ⟨by decide, rfl, rune_sem hti (k := .u8) (m := 98) rfl (by simp [dok]) rfl rfl rfl ?_⟩
    rw [show Go.Utf8.encode 98 = S8 [ltr 2] from rfl]
    simp only [go_sem, Nat.reduceLT]
  · simp only [go_sem, Nat.reduceLT, Int.reduceLE, show bt ⟨#[46, 97, 98, 99]⟩ 3 = 99 from rfl]
    refine ⟨by decide, rfl, rune_sem hti (k := .u8) (m := 99) rfl (by simp [dok]) rfl rfl rfl ?_⟩
    rw [show Go.Utf8.encode 99 = S8 [ltr 3] from rfl]
    simp only [go_sem, Nat.reduceLT]
theorem textP_Q (i : Nat) (P : Pc) (W H : Nat) (hs : hget h i = some (pcS P)) (hi : i < n) (hR : PcR P) (hP : PcOk P) (hW : P.wide = W) (hH : P.high = H) :
    CallQ Tryd.prog cx 55 [.ptr i 0] h n (.str (S8 (linesK W [] (fun x y => [ltr (P.ink y x)]) H))) := by
  have h8 := hP.1
  refine callQ_of_T (P := Tryd.prog) hti (nt := 8) (rs := [.tmp 2]) rfl rfl Tryd.call55 Tryd.func55 rfl _ (by simp only [go_sem, and_self]) (Nat.le_of_ble_eq_true rfl) _ (by first | exact trivial | (refine lt_flat rfl ?_; simp [SV.flat]; done) | simp only [go_sem]) fun hok => ?_
  simp only [go_sem, Nat.reduceLT]
  refine callA_false (sheet_E _ _ _ i P hs hi _ ?_)
  simp only [go_sem, Nat.reduceLT]
  have hgi : hget ((n, shS (psh P)) :: h) i = some (pcS P) := (by first | (simp only [go_sem, hs, hi]; done) | (simp only [go_sem, Nat.reduceBEq, Nat.reduceLT, Nat.reduceLeDiff, Nat.reduceAdd, Nat.reduceMul, Nat.reduceSub, Nat.reduceMod, Nat.reduceDiv, Nat.reduceEqDiff, Int.reduceToNat, reduceIte, reduceCtorEq, Int.reduceLE, Int.reduceLT, Int.reduceEq, Int.reduceNeg, Int.reduceAdd, Int.reduceSub, Int.reduceMul, hs, hi]; rfl))
  refine (lines_Q _ _ _ n 0 (shS (psh P)) W H [] 69 1 0 (cl [.ptr i 0]) (cl []) (fun x y => [ltr (P.ink y x)]) (hget_hit _ _ _) (by omega) (by show 2 ≤ 266; omega) (by show SV.int .i8 P.wide = _; rw [hW]) (by show SV.int .i8 P.high = _; rw [hH]) (by omega) (by omega) (by omega) (by omega) (by simp) (fun x y => by simp) ⟨fun j hj => ?_, fun j hj => absurd hj (Nat.not_lt_zero j)⟩ fun x y hx hy w0 nt n0 h' n' hn' hx' => ?_).A ?_
  · have hj : j < 1 := hj
    match j with
    | 0 => show i < n + 1; omega
    | j + 1 => omega
  · exact letter_Q _ h' n' i (roS (pcS P)) P x y (hx' i (by omega) _ (ro_some hgi)) rfl rfl (by omega) (by omega) (by omega) (by omega) (by omega) ⟨(hR.ink y x).1, (hP.2 y x (by omega) (by omega) (by omega) (by omega)).1⟩
  · simp only [go_sem, Nat.reduceLT]
    done
set_option maxRecDepth 20000 in
theorem packed_Q (hT : TabOk cx) (hM : MaxOk cx) (i : Nat) (P : Pc) (W H : Nat) (hs : hget h i = some (pcS P)) (hi : i < n) (hR : PcR P) (hP : PcOk P) (hW : P.wide = W) (hH : P.high = H) :
    CallQ Tryd.prog cx 28 [.ptr i 0] h n (.str (S8 (pkP P))) := by
  have h8 := hP.1
  have hm : H * W ≤ 8 * 8 := Nat.mul_le_mul (by omega) (by omega)
  have e120 : (⟨#[120]⟩ : ByteArray) = S8 [120] := rfl
  have e32 : (⟨#[32]⟩ : ByteArray) = S8 [32] := rfl
  have e10 : (⟨#[10]⟩ : ByteArray) = S8 [10] := rfl
  have e0 : (⟨#[]⟩ : ByteArray) = S8 [] := rfl
  have a0 := decL_len P.wide.toNat (by omega)
  have a1 := decL_len P.high.toNat (by omega)
  have hdl : (hdP P).length ≤ 22 := by unfold hdP; simp only [List.length_append, List.length_singleton]; omega
  have hpk : pkP P = hdP P ++ (pkR decL (inkK P W) (H * W) (H * W)).1 := by unfold pkP; rw [hW, hH]; rfl
  have hst := lines_strike W (fun x y => [ltr (P.ink y x)]) (inkK P W) (fun x y hx => by
    show _ = [ltr (P.ink (((y * W + x) / W : Nat) : Int) (((y * W + x) % W : Nat) : Int))]
    rw [show (y * W + x) / W = y by rw [Nat.mul_comm, Nat.mul_add_div (by omega), Nat.div_eq_of_lt hx, Nat.add_zero], show (y * W + x) % W = x by rw [Nat.mul_comm, Nat.mul_add_mod, Nat.mod_eq_of_lt hx]]) H
  have hll := linesK_le (W := W) (sep := []) (wd := fun x y => [ltr (P.ink y x)]) (by simp) (fun x y => by simp) (by omega) H
  have hLn := ltrs_len W (inkK P W) (H * W)
  rw [hpk]
  refine callQ_of_T (P := Tryd.prog) hti (nt := 62) (rs := [.tmp 2]) rfl rfl Tryd.call28 Tryd.func28 rfl _ (by simp only [go_sem, and_self]) (Nat.le_of_ble_eq_true rfl) _ (by first | exact trivial | (refine lt_flat rfl ?_; simp [SV.flat]; done) | simp only [go_sem]) fun hok => ?_
  simp only [go_sem, Nat.reduceLT]
  refine T_drawG hti 16 [] (.b 0 0 (.b 0 1 (.b 0 2 (.b 0 3 (.b 0 4 (.b 0 7 (.b 0 8 (.b 0 9 (.b 0 10 (.b 0 11 (.b 1 5 (.b 0 6 (.b 1 12 (.b 0 13 (.b 0 14 (.b 0 15 (.f) .o) .o) .o) .o) .o) .o) .o) .o) .o) .o) .o) .o) .o) .o) .o) .o) _ _ (by kernel_rfl) (by kernel_rfl) ?_
  simp only [go_sem, Nat.reduceLT, Nat.reduceLeDiff, reduceCtorEq, hs, hi, w64 (n := P.wide) (by omega), w64 (n := P.high) (by omega)]
  refine CallQ.F _ (fun h' n' hn' hx' => decimal_I _ h' n' (hT.sub _ _) P.wide (by omega) (by omega)) ?_
  simp only [go_sem, Nat.reduceLT, Nat.reduceLeDiff, e120, List.length_append, List.length_singleton]
  refine ⟨by omega, CallQ.F _ (fun h' n' hn' hx' => decimal_I _ h' n' (hT.sub _ _) P.high (by omega) (by omega)) ?_⟩
  simp only [go_sem, Nat.reduceLT, Nat.reduceLeDiff, e32, List.length_append, List.length_singleton]
  refine ⟨by omega, by omega, ?_⟩
  refine (textP_Q _ _ _ i P W H hs hi hR hP hW hH).A ?_
  simp only [go_sem, Nat.reduceLT, e10, e0]
  refine (strike_Q _ _ _ (hM.sub _ _) (linesK W [] (fun x y => [ltr (P.ink y x)]) H) (by omega)).A ?_
  rw [hst]
  simp only [go_sem, Nat.reduceLT]
  have hink : ∀ k, k < H * W → 0 ≤ inkK P W k ∧ inkK P W k ≤ 3 := fun k hk => by
    have hW0 : 0 < W := by omega
    have d1 := Nat.mod_lt k hW0
    have d2 := (Nat.div_lt_iff_lt_mul hW0).2 hk
    show 0 ≤ P.ink ((k / W : Nat) : Int) ((k % W : Nat) : Int) ∧ P.ink ((k / W : Nat) : Int) ((k % W : Nat) : Int) ≤ 3
    generalize k / W = a at *
    generalize k % W = b at *
    exact ⟨(hR.ink _ _).1, (hP.2 (a : Int) (b : Int) (by omega) (by omega) (by omega) (by omega)).1⟩
  have hpl := pkR_len decL (inkK P W) (H * W) (fun m hm => decL_len m (by omega))
  have hp2 := pkR_le decL (inkK P W) (H * W)
  have hyes := @pkR_yes decL (inkK P W) (H * W)
  have hno := @pkR_no decL (inkK P W) (H * W)
  have hget := ltrs_get W (inkK P W) (H * W)
  have hdE : decL P.wide.toNat ++ [120] ++ decL P.high.toNat ++ [32] = hdP P := rfl
  rw [hdE]
  have hbt : ∀ k, k < H * W → bt (S8 (ltrs W (inkK P W) (H * W))) (k : Int) = ((ltr (inkK P W k)).toNat : Int) := fun k hk => by rw [bt_S8 _ _ (by rw [hLn]; exact hk), hget k hk]
  have hex : ∀ k, k < H * W → (S8 (ltrs W (inkK P W) (H * W))).extract k (k + 1) = S8 [ltr (inkK P W k)] := fun k hk => by rw [ext_S8 _ _ (by rw [hLn]; exact hk), hget k hk]
  have hsz : (S8 (ltrs W (inkK P W) (H * W))).size = H * W := by rw [S8_size, hLn]
  generalize hLS : S8 (ltrs W (inkK P W) (H * W)) = LS at *
  generalize hv : inkK P W = v at *
  generalize hNN : H * W = N at *
  generalize hdP P = HD at *
  generalize hpkf : pkR decL v N = pk at *
  have hp0 : pk 0 = ([], 0) := by rw [← hpkf]; rfl
  refine T_lp (ι := { q : Nat // q ≤ N })
    (fun q => ([(0, .ptr i 0), (3, .str (S8 (HD ++ (pk q.1).1))), (4, .str LS), (5, .int .i64 q.1), (6, .int .i64 (((pk q.1).2 : Nat) : Int))], h, n)) (fun q => N - q.1) ⟨0, by omega⟩ ?_ ?_
  · refine Imp.id (by simp) ?_ (impH.base0 hok (by simp) HExt.rfl)
    simp only [go_sem, Nat.reduceLT, hp0, List.append_nil]
    (repeat' apply And.intro) <;> first | omega | rfl | trivial | assumption | skip
  · rintro ⟨q, hq⟩
    have hple := hpl q (by omega)
    have hp2q := hp2 q
    simp only [go_sem, Nat.reduceLT, hsz, decide_eq_true_eq, decide_eq_false_iff_not]
    refine ⟨fun h1 => ?_, fun h1 => ?_⟩
    rotate_left
    · have hq2 : q = N := by omega
      subst hq2
      simp only [go_sem]
      done
    have hqm : q < N := by omega
    have hbq := hbt q hqm
    have hexq : LS.extract q ((q : Int) + 1).toNat = S8 [ltr (v q)] := by rw [show ((q : Int) + 1).toNat = q + 1 by omega]; exact hex q hqm
    have wq := w64 (n := (q : Int) + 1) (by omega)
    have r1 : (0 : Int) ≤ q ∧ (q : Int) < N := ⟨by omega, by omega⟩
    have wsub : IntKind.i64.wrap ((q : Int) + 1 - (((pk q).2 : Nat) : Int)) = ((q + 1 - (pk q).2 : Nat) : Int) := by rw [show (q : Int) + 1 - (((pk q).2 : Nat) : Int) = ((q + 1 - (pk q).2 : Nat) : Int) by omega]; exact w64 (by omega)
    have hdl2 := decL_len (q + 1 - (pk q).2) (by omega)
    have hdc := fun h' n' => decimal_Q ⟨cx.w0, cx.W, 62, n⟩ h' n' (hT.sub _ _) (q + 1 - (pk q).2) (by omega)
    have s1 : (S8 [ltr (v q)]).size = 1 := rfl
    have r2 : (0 : Int) ≤ q ∧ (q : Int) ≤ (q : Int) + 1 ∧ (q : Int) + 1 ≤ N := ⟨by omega, by omega, by omega⟩
    by_cases hl1 : q + 1 = N
    · have hpq := hyes (.inl hl1)
      have hlI : ((q : Int) + 1 = (N : Int)) = True := eq_true (by omega)
      refine T_drawG hti 15 [] (.b 0 0 (.b 0 1 (.b 0 2 (.b 0 3 (.b 0 4 (.b 0 5 (.b 0 6 (.b 0 7 (.b 0 8 (.b 0 9 (.b 0 10 (.b 0 11 (.b 0 12 (.b 0 13 (.b 0 14 (.f) .o) .o) .o) .o) .o) .o) .o) .o) .o) .o) .o) .o) .o) .o) .o) _ _ (by kernel_rfl) (by kernel_rfl) ?_
      simp only [go_sem, Nat.reduceLT, hsz, wq, hlI, hbq, r1]
      refine T_drawG hti 14 [] (.b 0 0 (.b 0 1 (.b 0 2 (.b 0 3 (.b 0 4 (.b 0 6 (.b 0 7 (.b 0 8 (.b 0 9 (.b 0 10 (.b 1 5 (.b 0 11 (.b 0 12 (.b 0 13 (.f) .o) .o) .o) .o) .o) .o) .o) .o) .o) .o) .o) .o) .o) .o) _ _ (by kernel_rfl) (by kernel_rfl) ?_
      simp only [go_sem, Nat.reduceLT, hsz, wq, wsub, r1, r2, hexq]
      refine CallQ.F _ (fun h' n' hn' hx' => hdc h' n') ?_
      simp only [go_sem, Nat.reduceLT, Nat.reduceLeDiff, hsz, s1, hexq, List.length_append, List.length_singleton]
      refine ⟨by omega, by omega, ⟨q + 1, by omega⟩, by show N - (q + 1) < N - q; omega, ?_⟩
      refine Imp.id (by simp) ?_ (impH.base0 hok (by simp) HExt.rfl)
      simp only [go_sem, Nat.reduceLT, hpq, wq, List.append_assoc, Int.natCast_add, Int.natCast_one]
      (repeat' apply And.intro) <;> first | omega | rfl | trivial | assumption | skip
    · have hlI : ((q : Int) + 1 = (N : Int)) = False := eq_false (by omega)
      have hbq1 := hbt (q + 1) (by omega)
      rw [Int.natCast_add, Int.natCast_one] at hbq1
      have r3 : (0 : Int) ≤ (q : Int) + 1 ∧ (q : Int) + 1 < N := ⟨by omega, by omega⟩
      by_cases hl2 : v (q + 1) = v q
      · have hpq := hno (i := q) (by rintro (e | e); exact hl1 e; exact e hl2)
        rw [hl2] at hbq1
        refine T_drawG hti 15 [] (.b 0 0 (.b 0 1 (.b 0 2 (.b 0 3 (.b 0 4 (.b 0 5 (.b 0 6 (.b 0 7 (.b 0 8 (.b 0 9 (.b 0 10 (.b 0 11 (.b 0 12 (.b 0 13 (.b 0 14 (.f) .o) .o) .o) .o) .o) .o) .o) .o) .o) .o) .o) .o) .o) .o) .o) _ _ (by kernel_rfl) (by kernel_rfl) ?_
        simp only [go_sem, Nat.reduceLT, hsz, wq, hlI, hbq, hbq1, r1, r3]
        refine ⟨⟨q + 1, by omega⟩, by show N - (q + 1) < N - q; omega, ?_⟩
        refine Imp.id (by simp) ?_ (impH.base0 hok (by simp) HExt.rfl)
        simp only [go_sem, Nat.reduceLT, hpq, wq, List.append_assoc, Int.natCast_add, Int.natCast_one]
        (repeat' apply And.intro) <;> first | omega | rfl | trivial | assumption | skip
      · have hpq := hyes (.inr hl2)
        have hne : (((ltr (v (q + 1))).toNat : Int) = ((ltr (v q)).toNat : Int)) = False := eq_false fun e => hl2 (ltr_inj (hink (q + 1) (by omega)) (hink q hqm) (by
          apply UInt8.toNat_inj.1
          omega))
        refine T_drawG hti 15 [] (.b 0 0 (.b 0 1 (.b 0 2 (.b 0 3 (.b 0 4 (.b 0 5 (.b 0 6 (.b 0 7 (.b 0 8 (.b 0 9 (.b 0 10 (.b 0 11 (.b 0 12 (.b 0 13 (.b 0 14 (.f) .o) .o) .o) .o) .o) .o) .o) .o) .o) .o) .o) .o) .o) .o) .o) _ _ (by kernel_rfl) (by kernel_rfl) ?_
        simp only [go_sem, Nat.reduceLT, hsz, wq, hlI, hbq, hbq1, r1, r3, hne]
        refine T_drawG hti 14 [] (.b 0 0 (.b 0 1 (.b 0 2 (.b 0 3 (.b 0 4 (.b 0 6 (.b 0 7 (.b 0 8 (.b 0 9 (.b 0 10 (.b 1 5 (.b 0 11 (.b 0 12 (.b 0 13 (.f) .o) .o) .o) .o) .o) .o) .o) .o) .o) .o) .o) .o) .o) .o) _ _ (by kernel_rfl) (by kernel_rfl) ?_
        simp only [go_sem, Nat.reduceLT, hsz, wq, wsub, r1, r2, hexq]
        refine CallQ.F _ (fun h' n' hn' hx' => hdc h' n') ?_
        simp only [go_sem, Nat.reduceLT, Nat.reduceLeDiff, hsz, s1, hexq, List.length_append, List.length_singleton]
        refine ⟨by omega, by omega, ⟨q + 1, by omega⟩, by show N - (q + 1) < N - q; omega, ?_⟩
        refine Imp.id (by simp) ?_ (impH.base0 hok (by simp) HExt.rfl)
        simp only [go_sem, Nat.reduceLT, hpq, wq, List.append_assoc, Int.natCast_add, Int.natCast_one]
        (repeat' apply And.intro) <;> first | omega | rfl | trivial | assumption | skip
end
end Go.Proofs.YtckefhnobflhcaaDoor.V

/- Packed pictures: the reference's code: the walks. -/
namespace Go.Proofs.YtckefhnobflhcaaDoor.V
section
variable (cx : Cx) (h : List (Nat × Seg)) (n : Nat)
theorem letter2_Q (v : Int) (hv : 0 ≤ v ∧ v ≤ 3) : CallQ Tryd.prog cx 52 [.int .u8 v] h n (.str (S8 [ltr v])) := by
  refine callQ_of_T (P := Tryd.prog) hti (nt := 9) (rs := [.tmp 2]) rfl rfl Tryd.call52 Tryd.func52 rfl _ (by simp only [go_sem, and_self]) (Nat.le_of_ble_eq_true rfl) _ (by first | exact trivial | (refine lt_flat rfl ?_; simp [SV.flat]; done) | simp only [go_sem]) fun hok => ?_
  rcases (by omega : v = 0 ∨ v = 1 ∨ v = 2 ∨ v = 3) with rfl | rfl | rfl | rfl
  · simp only [go_sem, Nat.reduceLT, Int.reduceToNat, Int.reduceLE, Int.reduceLT, Int.reduceAdd, show IntKind.u8.wrap (0 + 1) = 1 from rfl, show (⟨#[46, 97, 98, 99]⟩ : ByteArray).extract 0 1 = S8 [ltr 0] from rfl]
    try decide
  · simp only [go_sem, Nat.reduceLT, Int.reduceToNat, Int.reduceLE, Int.reduceLT, Int.reduceAdd, show IntKind.u8.wrap (1 + 1) = 2 from rfl, show (⟨#[46, 97, 98, 99]⟩ : ByteArray).extract 1 2 = S8 [ltr 1] from rfl]
    try decide
  · simp only [go_sem, Nat.reduceLT, Int.reduceToNat, Int.reduceLE, Int.reduceLT, Int.reduceAdd, show IntKind.u8.wrap (2 + 1) = 3 from rfl, show (⟨#[46, 97, 98, 99]⟩ : ByteArray).extract 2 3 = S8 [ltr 2] from rfl]
    try decide
  · simp only [go_sem, Nat.reduceLT, Int.reduceToNat, Int.reduceLE, Int.reduceLT, Int.reduceAdd, show IntKind.u8.wrap (3 + 1) = 4 from rfl, show (⟨#[46, 97, 98, 99]⟩ : ByteArray).extract 3 4 = S8 [ltr 3] from rfl]
    try decide
set_option maxRecDepth 20000 in
theorem pack2_Q (i : Nat) (P : Pc) (W H : Nat) (hs : hget h i = some (pcS P)) (hi : i < n) (hR : PcR P) (hP : PcOk P) (hW : P.wide = W) (hH : P.high = H) :
    CallQ Tryd.prog cx 25 [.ptr i 0] h n (.str (S8 (pkP P))) := by
  have h8 := hP.1
  have hW8 : W ≤ 8 := by omega
  have hH8 : H ≤ 8 := by omega
  have hm : H * W ≤ 8 * 8 := Nat.mul_le_mul hH8 hW8
  have e120 : (⟨#[120]⟩ : ByteArray) = S8 [120] := rfl
  have e32 : (⟨#[32]⟩ : ByteArray) = S8 [32] := rfl
  have a0 := decL_len P.wide.toNat (by omega)
  have a1 := decL_len P.high.toNat (by omega)
  have hdl : (hdP P).length ≤ 22 := by unfold hdP; simp only [List.length_append, List.length_singleton]; omega
  have hpk : pkP P = hdP P ++ (pkR decL (inkK P W) (H * W) (H * W)).1 := by unfold pkP; rw [hW, hH]; rfl
  have hdm : ∀ q, q < H * W → q % W < 8 ∧ q / W < 8 := fun q hq => by
    have hW0 : 0 < W := Nat.pos_of_ne_zero fun e => by rw [e, Nat.mul_zero] at hq; omega
    have h1 := Nat.mod_lt q hW0
    have h2 := (Nat.div_lt_iff_lt_mul hW0).2 hq
    exact ⟨by omega, by omega⟩
  rw [hpk]
  refine callQ_of_T (P := Tryd.prog) hti (nt := 84) (rs := [.tmp 2]) rfl rfl Tryd.call25 Tryd.func25 rfl _ (by simp only [go_sem, and_self]) (Nat.le_of_ble_eq_true rfl) _ (by first | exact trivial | (refine lt_flat rfl ?_; simp [SV.flat]; done) | simp only [go_sem]) fun hok => ?_
  simp only [go_sem, Nat.reduceLT]
  refine T_drawG hti 16 [] (.b 0 0 (.b 0 1 (.b 0 2 (.b 0 3 (.b 0 4 (.b 0 7 (.b 0 8 (.b 0 9 (.b 0 10 (.b 0 11 (.b 1 5 (.b 0 6 (.b 1 12 (.b 0 13 (.b 0 14 (.b 0 15 (.f) .o) .o) .o) .o) .o) .o) .o) .o) .o) .o) .o) .o) .o) .o) .o) .o) _ _ (by kernel_rfl) (by kernel_rfl) ?_
  simp only [go_sem, Nat.reduceLT, Nat.reduceLeDiff, reduceCtorEq, hs, hi, w64 (n := P.wide) (by omega), w64 (n := P.high) (by omega)]
  refine CallQ.F _ (fun h' n' hn' hx' => decimal2_I _ h' n' P.wide (by omega) (by omega)) ?_
  simp only [go_sem, Nat.reduceLT, Nat.reduceLeDiff, e120, List.length_append, List.length_singleton]
  refine ⟨by omega, CallQ.F _ (fun h' n' hn' hx' => decimal2_I _ h' n' P.high (by omega) (by omega)) ?_⟩
  simp only [go_sem, Nat.reduceLT, Nat.reduceLeDiff, e32, List.length_append, List.length_singleton]
  refine ⟨by omega, by omega, ?_⟩
  refine callA_false (spots7_E _ _ _ i P W H hs hi hW hH hW8 hH8 _ fun capM hc1 hc2 => ?_)
  have hink : ∀ k, k < H * W → 0 ≤ inkK P W k ∧ inkK P W k ≤ 3 := fun k hk => by
    obtain ⟨d1, d2⟩ := hdm k hk
    show 0 ≤ P.ink ((k / W : Nat) : Int) ((k % W : Nat) : Int) ∧ P.ink ((k / W : Nat) : Int) ((k % W : Nat) : Int) ≤ 3
    generalize k / W = a at *
    generalize k % W = b at *
    exact ⟨(hR.ink _ _).1, (hP.2 (a : Int) (b : Int) (by omega) (by omega) (by omega) (by omega)).1⟩
  have hpl := pkR_len decL (inkK P W) (H * W) (fun m hm => decL_len m (by omega))
  have hp2 := pkR_le decL (inkK P W) (H * W)
  have hyes := @pkR_yes decL (inkK P W) (H * W)
  have hno := @pkR_no decL (inkK P W) (H * W)
  have hcell : ∀ q, q < H * W → (pcC P (2 + (q / W) * 8 + q % W)) = .int .u8 (inkK P W q) := fun q hq => by
    obtain ⟨d1, d2⟩ := hdm q hq
    show _ = SV.int .u8 (P.ink ((q / W : Nat) : Int) ((q % W : Nat) : Int))
    generalize q / W = a at *
    generalize q % W = b at *
    have := pcC_ink P (a : Int) (b : Int) (by omega) (by omega) (by omega) (by omega)
    simpa using this
  generalize hv : inkK P W = v at *
  generalize hNN : H * W = N at *
  have hdE : decL P.wide.toNat ++ [120] ++ decL P.high.toNat ++ [32] = hdP P := rfl
  rw [hdE]
  generalize hdP P = HD at *
  generalize hpkf : pkR decL v N = pk at *
  have hp0 : pk 0 = ([], 0) := by rw [← hpkf]; rfl
  simp only [go_sem, Nat.reduceLT]
  refine T_lp (ι := { q : Nat // q ≤ N })
    (fun q => ([(0, .ptr i 0), (3, .str (S8 (HD ++ (pk q.1).1))), (4, .sl n 0 N capM), (5, .int .i64 ((q.1 - (pk q.1).2 : Nat) : Int)), (6, .int .i64 q.1)],
      (n, ⟨N * 2, cellC W, true, none⟩) :: h, n + 1)) (fun q => N - q.1) ⟨0, by omega⟩ ?_ ?_
  · refine Imp.id (by simp) ?_ ?_
    · simp only [go_sem, Nat.reduceLT, Nat.reduceSub, hp0, List.append_nil]
      (repeat' apply And.intro) <;> first | omega | rfl | trivial | assumption | skip
    · exact impH.cons0 (hget_hit _ _ _) (by simp) (SegLe.flat (Nat.le_refl _) id (.inl rfl) fun k hk => ⟨rfl, cellC_flat _ _⟩) (impH.base0 hok (by simp) (by simp only [go_sem, HExt_cons]))
  · rintro ⟨q, hq⟩
    have hple := hpl q (by omega)
    have hp2q := hp2 q
    simp only [go_sem, Nat.reduceLT, decide_eq_true_eq, decide_eq_false_iff_not]
    refine ⟨fun h1 => ?_, fun h1 => ?_⟩
    rotate_left
    · have hq2 : q = N := by omega
      subst hq2
      simp only [go_sem]
      done
    have hqm : q < N := by omega
    have r1 : (0 : Int) ≤ q ∧ (q : Int) < N := ⟨by omega, by omega⟩
    have b1 : q * 2 ≤ N * 2 - 2 := by omega
    have b2 : q * 2 + 2 ≤ N * 2 := by omega
    have b3 : 2 ≤ N * 2 := by omega
    have b4 : q * 2 ≤ N * 2 - 1 := by omega
    have b5 : q * 2 + 1 ≤ N * 2 - 1 := by omega
    have b6 : q * 2 + 1 ≤ N * 2 := by omega
    have b7 : 1 ≤ N * 2 := by omega
    obtain ⟨hx8, hy8⟩ := hdm q hqm
    have e0 := cellC_0 W q
    have e1 := cellC_1 W q
    have hin := hcell q hqm
    have hvq := hink q hqm
    generalize hyy : q / W = y at *
    generalize hxx : q % W = x at *
    have c1 : (0 : Int) ≤ (x : Int) ∧ (x : Int) < 8 := ⟨by omega, by omega⟩
    have c3 : (0 : Int) ≤ (y : Int) ∧ (y : Int) < 8 := ⟨by omega, by omega⟩
    have d1 : y * 8 + x ≤ 63 := by omega
    have d2 : y * 8 + x + 1 ≤ 64 := by omega
    have d3 : 2 + y * 8 + x ≤ 65 := by omega
    have d4 : 2 + y * 8 + x + 1 ≤ 66 := by omega
    have wr : IntKind.i64.wrap (((q - (pk q).2 : Nat) : Int) + 1) = ((q + 1 - (pk q).2 : Nat) : Int) := by rw [show ((q - (pk q).2 : Nat) : Int) + 1 = ((q + 1 - (pk q).2 : Nat) : Int) by omega]; exact w64 (by omega)
    have wq := w64 (n := (q : Int) + 1) (by omega)
    have wn := w64 (n := (N : Int) - 1) (by omega)
    have s1 : (S8 [ltr (v q)]).size = 1 := rfl
    have hdl2 := decL_len (q + 1 - (pk q).2) (by omega)
    refine T_drawG hti 17 [] (.b 0 0 (.b 0 1 (.b 0 2 (.b 0 3 (.b 0 4 (.b 0 5 (.b 0 6 (.b 0 7 (.b 0 8 (.b 0 9 (.b 0 10 (.b 0 11 (.b 0 12 (.b 0 13 (.b 0 14 (.b 0 15 (.b 0 16 (.f) .o) .o) .o) .o) .o) .o) .o) .o) .o) .o) .o) .o) .o) .o) .o) .o) .o) _ _ (by kernel_rfl) (by kernel_rfl) ?_
    simp only [go_sem, Nat.reduceLT, reduceCtorEq, hs, hi, r1, b1, b2, b3, b4, b5, b6, b7, e0, e1, c1, c3, hin, d1, d2, d3, d4, wr]
    by_cases hl1 : q + 1 = N
    · have hpq := hyes (.inl hl1)
      have hlI : ((q : Int) = (N : Int) - 1) = True := eq_true (by omega)
      refine T_drawG hti 27 [] (.b 0 0 (.b 0 1 (.b 0 2 (.b 0 3 (.b 0 4 (.b 0 5 (.b 0 6 (.b 0 7 (.b 0 8 (.b 0 9 (.b 0 10 (.b 0 11 (.b 0 12 (.b 0 13 (.b 0 14 (.b 0 15 (.b 0 16 (.b 0 17 (.b 0 18 (.b 0 19 (.b 0 20 (.b 0 21 (.b 0 22 (.b 0 23 (.b 0 24 (.b 0 25 (.b 0 26 (.f) .o) .o) .o) .o) .o) .o) .o) .o) .o) .o) .o) .o) .o) .o) .o) .o) .o) .o) .o) .o) .o) .o) .o) .o) .o) .o) .o) _ _ (by kernel_rfl) (by kernel_rfl) ?_
      simp only [go_sem, Nat.reduceLT, wn, wq, hlI]
      refine (decimal2_Q _ _ _ (q + 1 - (pk q).2) (by omega)).A ?_
      simp only [go_sem, Nat.reduceLT]
      refine (letter2_Q _ _ _ (v q) hvq).A ?_
      simp only [go_sem, Nat.reduceLT, Nat.reduceLeDiff, List.length_append, List.length_singleton, s1]
      refine ⟨by omega, by omega, ⟨q + 1, by omega⟩, by show N - (q + 1) < N - q; omega, ?_⟩
      refine Imp.id (by simp) ?_ (impH.cons0 (hget_hit _ _ _) (by simp) (SegLe.flat (Nat.le_refl _) id (.inr rfl) fun k hk => ⟨rfl, cellC_flat _ _⟩) (impH.base0 hok (by simp) (by simp only [go_sem, HExt_cons])))
      simp only [go_sem, Nat.reduceLT, hpq, wq, List.append_assoc, Int.natCast_add, Int.natCast_one, Nat.sub_self, Int.natCast_zero]
      (repeat' apply And.intro) <;> first | omega | rfl | trivial | assumption | skip
    · have hlI : ((q : Int) = (N : Int) - 1) = False := eq_false (by omega)
      have q1 : q + 1 < N := by omega
      obtain ⟨hx8', hy8'⟩ := hdm (q + 1) q1
      have e0' := cellC_0 W (q + 1)
      have e1' := cellC_1 W (q + 1)
      have hin' := hcell (q + 1) q1
      have r1' : (0 : Int) ≤ (q : Int) + 1 ∧ (q : Int) + 1 < N := ⟨by omega, by omega⟩
      have b1' : (q + 1) * 2 ≤ N * 2 - 2 := by omega
      have b2' : (q + 1) * 2 + 2 ≤ N * 2 := by omega
      have b4' : (q + 1) * 2 ≤ N * 2 - 1 := by omega
      have b5' : (q + 1) * 2 + 1 ≤ N * 2 - 1 := by omega
      have b6' : (q + 1) * 2 + 1 ≤ N * 2 := by omega
      have hq1t : ((q : Int) + 1).toNat = q + 1 := by omega
      generalize hyy' : (q + 1) / W = y' at *
      generalize hxx' : (q + 1) % W = x' at *
      have c1' : (0 : Int) ≤ (x' : Int) ∧ (x' : Int) < 8 := ⟨by omega, by omega⟩
      have c3' : (0 : Int) ≤ (y' : Int) ∧ (y' : Int) < 8 := ⟨by omega, by omega⟩
      have d1' : y' * 8 + x' ≤ 63 := by omega
      have d2' : y' * 8 + x' + 1 ≤ 64 := by omega
      have d3' : 2 + y' * 8 + x' ≤ 65 := by omega
      have d4' : 2 + y' * 8 + x' + 1 ≤ 66 := by omega
      by_cases hl2 : v (q + 1) = v q
      · have hpq := hno (i := q) (by rintro (e | e); exact hl1 e; exact e hl2)
        have hss : (q - (pk q).2 : Nat) + 1 = q + 1 - (pk q).2 := by omega
        rw [hl2] at hin'
        refine T_drawG hti 27 [] (.b 0 0 (.b 0 1 (.b 0 2 (.b 0 3 (.b 0 4 (.b 0 5 (.b 0 6 (.b 0 7 (.b 0 8 (.b 0 9 (.b 0 10 (.b 0 11 (.b 0 12 (.b 0 13 (.b 0 14 (.b 0 15 (.b 0 16 (.b 0 17 (.b 0 18 (.b 0 19 (.b 0 20 (.b 0 21 (.b 0 22 (.b 0 23 (.b 0 24 (.b 0 25 (.b 0 26 (.f) .o) .o) .o) .o) .o) .o) .o) .o) .o) .o) .o) .o) .o) .o) .o) .o) .o) .o) .o) .o) .o) .o) .o) .o) .o) .o) .o) _ _ (by kernel_rfl) (by kernel_rfl) ?_
        simp only [go_sem, Nat.reduceLT, reduceCtorEq, hs, hi, wn, wq, hlI, hq1t, r1', b1', b2', b3, b4', b5', b6', b7, e0', e1', c1', c3', hin', d1', d2', d3', d4']
        refine ⟨⟨q + 1, by omega⟩, by show N - (q + 1) < N - q; omega, ?_⟩
        refine Imp.id (by simp) ?_ (impH.cons0 (hget_hit _ _ _) (by simp) (SegLe.flat (Nat.le_refl _) id (.inr rfl) fun k hk => ⟨rfl, cellC_flat _ _⟩) (impH.base0 hok (by simp) (by simp only [go_sem, HExt_cons])))
        simp only [go_sem, Nat.reduceLT, hpq, wq, List.append_assoc, Int.natCast_add, Int.natCast_one]
        (repeat' apply And.intro) <;> first | omega | rfl | trivial | assumption | skip
      · have hpq := hyes (.inr hl2)
        have hne : (v (q + 1) = v q) = False := eq_false hl2
        refine T_drawG hti 27 [] (.b 0 0 (.b 0 1 (.b 0 2 (.b 0 3 (.b 0 4 (.b 0 5 (.b 0 6 (.b 0 7 (.b 0 8 (.b 0 9 (.b 0 10 (.b 0 11 (.b 0 12 (.b 0 13 (.b 0 14 (.b 0 15 (.b 0 16 (.b 0 17 (.b 0 18 (.b 0 19 (.b 0 20 (.b 0 21 (.b 0 22 (.b 0 23 (.b 0 24 (.b 0 25 (.b 0 26 (.f) .o) .o) .o) .o) .o) .o) .o) .o) .o) .o) .o) .o) .o) .o) .o) .o) .o) .o) .o) .o) .o) .o) .o) .o) .o) .o) .o) _ _ (by kernel_rfl) (by kernel_rfl) ?_
        simp only [go_sem, Nat.reduceLT, reduceCtorEq, hs, hi, wn, wq, hlI, hq1t, r1', b1', b2', b3, b4', b5', b6', b7, e0', e1', c1', c3', hin', d1', d2', d3', d4', hne]
        refine (decimal2_Q _ _ _ (q + 1 - (pk q).2) (by omega)).A ?_
        simp only [go_sem, Nat.reduceLT]
        refine (letter2_Q _ _ _ (v q) hvq).A ?_
        simp only [go_sem, Nat.reduceLT, Nat.reduceLeDiff, List.length_append, List.length_singleton, s1]
        refine ⟨by omega, by omega, ⟨q + 1, by omega⟩, by show N - (q + 1) < N - q; omega, ?_⟩
        refine Imp.id (by simp) ?_ (impH.cons0 (hget_hit _ _ _) (by simp) (SegLe.flat (Nat.le_refl _) id (.inr rfl) fun k hk => ⟨rfl, cellC_flat _ _⟩) (impH.base0 hok (by simp) (by simp only [go_sem, HExt_cons])))
        simp only [go_sem, Nat.reduceLT, hpq, wq, List.append_assoc, Int.natCast_add, Int.natCast_one, Nat.sub_self, Int.natCast_zero]
        (repeat' apply And.intro) <;> first | omega | rfl | trivial | assumption | skip
end
end Go.Proofs.YtckefhnobflhcaaDoor.V

/- PackPicture: both codes and the law: the walks. -/
namespace Go.Proofs.YtckefhnobflhcaaDoor.V
noncomputable def pkRes (P : Pc) : List UInt8 × Int := if pcokB P then (pkP P, 0) else ([], 1)
section
variable (cx : Cx) (h : List (Nat × Seg)) (n : Nat)
theorem packPicture_Q (hT : TabOk cx) (hM : MaxOk cx) (P : Pc) (hR : PcR P) : CallQ Tryd.prog cx 11 [.agg 66 (pcC P)] h n (.tup 2 (cl [.str (S8 (pkRes P).1), .int .i64 (pkRes P).2])) := by
  have e0 : (⟨#[]⟩ : ByteArray) = S8 [] := rfl
  refine callQ_of_T (P := Tryd.prog) hti (nt := 10) (rs := [.tmp 2, .tmp 3]) rfl rfl Tryd.call11 Tryd.func11 rfl _ (by simp only [go_sem, and_self]) (Nat.le_of_ble_eq_true rfl) _ (by first | exact trivial | (refine lt_flat rfl ?_; simp [SV.flat]; done) | simp only [go_sem]) fun hok => ?_
  simp only [go_sem, Nat.reduceLT]
  refine (codePc_Q _ _ _ n P (hget_hit _ _ _) (by omega) hR true).A ?_
  unfold pkRes codePc
  by_cases hk : pcokB P = true
  · have hP : PcOk P := by simpa [pcokB] using hk
    have h8 := hP.1
    obtain ⟨W, hW⟩ : ∃ W : Nat, P.wide = W := ⟨P.wide.toNat, by omega⟩
    obtain ⟨H, hH⟩ : ∃ H : Nat, P.high = H := ⟨P.high.toNat, by omega⟩
    simp only [go_sem, Nat.reduceLT, reduceIte, hk]
    refine (packed_Q _ _ _ (hT.sub _ _) (hM.sub _ _) n P W H (hget_hit _ _ _) (by omega) hR hP hW hH).A ?_
    simp only [go_sem, Nat.reduceLT, hk]
  · simp only [go_sem, Nat.reduceLT, reduceIte, Int.reduceEq, hk, e0]
theorem packPicture2_Q (P : Pc) (hR : PcR P) : CallQ Tryd.prog cx 9 [.agg 66 (pcC P)] h n (.tup 2 (cl [.str (S8 (pkRes P).1), .int .i64 (pkRes P).2])) := by
  have e0 : (⟨#[]⟩ : ByteArray) = S8 [] := rfl
  refine callQ_of_T (P := Tryd.prog) hti (nt := 7) (rs := [.tmp 2, .tmp 3]) rfl rfl Tryd.call9 Tryd.func9 rfl _ (by simp only [go_sem, and_self]) (Nat.le_of_ble_eq_true rfl) _ (by first | exact trivial | (refine lt_flat rfl ?_; simp [SV.flat]; done) | simp only [go_sem]) fun hok => ?_
  simp only [go_sem, Nat.reduceLT]
  refine (ok7_Q _ _ _ n P (hget_hit _ _ _) (by omega) hR).A ?_
  unfold pkRes
  by_cases hk : pcokB P = true
  · have hP : PcOk P := by simpa [pcokB] using hk
    have h8 := hP.1
    obtain ⟨W, hW⟩ : ∃ W : Nat, P.wide = W := ⟨P.wide.toNat, by omega⟩
    obtain ⟨H, hH⟩ : ∃ H : Nat, P.high = H := ⟨P.high.toNat, by omega⟩
    simp only [go_sem, Nat.reduceLT, reduceIte, hk]
    refine (pack2_Q _ _ _ n P W H (hget_hit _ _ _) (by omega) hR hP hW hH).A ?_
    simp only [go_sem, Nat.reduceLT, hk]
  · have hk : pcokB P = false := by simpa using hk
    simp only [go_sem, Nat.reduceLT, reduceIte, hk, e0]
theorem lawPack_Q (hTM : TabOk cx ∧ MaxOk cx) (P : Pc) (hR : PcR P) : CallQ Tryd.prog cx 4 [.agg 66 (pcC P)] h n (.bool true) := by
  obtain ⟨hT, hM⟩ := hTM
  refine callQ_of_T (P := Tryd.prog) hti (nt := 27) (rs := [.tmp 2]) rfl rfl Tryd.call4 Tryd.func4 rfl _ (by simp only [go_sem, and_self]) (Nat.le_of_ble_eq_true rfl) _ (by first | exact trivial | (refine lt_flat rfl ?_; simp [SV.flat]; done) | simp only [go_sem]) fun hok => ?_
  simp only [go_sem, Nat.reduceLT]
  refine (toPicture_Q _ _ _ P).A ?_
  simp only [go_sem, Nat.reduceLT]
  refine (packPicture2_Q _ _ _ P hR).A ?_
  simp only [go_sem, Nat.reduceLT]
  refine (toPicture_Q _ _ _ P).A ?_
  simp only [go_sem, Nat.reduceLT]
  refine (packPicture_Q _ _ _ (hT.sub _ _) (hM.sub _ _) P hR).A ?_
  simp only [go_sem, Nat.reduceLT]
  done
end
end Go.Proofs.YtckefhnobflhcaaDoor.V

/- What the row's condition on the laid tables gives the walks; a world that meets it. -/
namespace Go.Proofs.YtckefhnobflhcaaDoor.V
open Go.ChangeShapes Go.WideShapes Go.ChangeAt Go.WideElems Go.RowKit
theorem gPow : Tryd.prog.globalNamed "internal/strconv.uint64pow10" = some 1 := by kernel_rfl
theorem tabIs_of {W : World} {a b : String × DataW Unit} {r : List (String × DataW Unit)} (h : laidMet Tryd.prog (a :: b :: ("internal/strconv.uint64pow10", Rows.laid_internal_strconv_uint64pow10) :: r) W) : Lib.TabIs Tryd.prog W "internal/strconv.uint64pow10" .u64 Lib.pow10Tab := by
  have h2 := (laidMet.tail (laidMet.tail h))
  exact Lib.tabIs_of_head gPow (t := 129) (e := 120) (n := 20) (by kernel_rfl) (by kernel_rfl) (by kernel_rfl) (by kernel_rfl) (by kernel_rfl) (k := .u64) (zs := Lib.pow10Tab) h2
theorem tabOk_of {W : World} (h : Lib.TabIs Tryd.prog W "internal/strconv.uint64pow10" .u64 Lib.pow10Tab) : TabOk (cx0 W) := fun w hk => Joins.tab_stays gPow h hk.below (Nat.le_refl _)
end Go.Proofs.YtckefhnobflhcaaDoor.V

/- A row at laid tables whose contract may use the world's shape; some number lies in MaxLen. -/
namespace Go.Proofs.YtckefhnobflhcaaDoor.V
open Go.ChangeShapes Go.WideShapes Go.ChangeAt Go.WideElems Go.RowKit
theorem maxOk_of {W : World} (h : W.ShapedOpen Tryd.prog) : MaxOk (cx0 W) := by
  obtain ⟨m, hm⟩ := cell_of_shapedOpen_int (t := 3) (zero := #[.int .i64 0]) (k := .i64) h (g := 0) (of_decide_eq_true (by kernel_rfl)) (by kernel_rfl) rfl (by kernel_rfl) (by kernel_rfl) (by kernel_rfl)
  refine ⟨m, fun w hk => ?_⟩
  have hb : 0 < W.heap.size := by
    rcases Nat.lt_or_ge 0 W.heap.size with h | h
    · exact h
    · simp [World.cell?, Array.getElem?_eq_none h] at hm
  simp only [World.cell?] at hm ⊢
  rw [show w.heap[0]? = W.heap[0]? from hk.noth hb]
  exact hm
/-- The wrap of a law at laid tables, the world's shape kept for the contract. -/
theorem handed_shaped_and {H : Type} {enc : TypeId × Value → H} {a : Assume} {C : Checked} {os : Os} {f : FuncId} {fn : Func} {s : ChangeSpec} {conds : List PathCond} {apart fresh handsOn again : Bool} {X : World → Array Value → Prop}
    (hX : ∀ (w w' : World) (args : Array Value), w.heap = w'.heap → X w args → X w' args)
    (own : ownKnob C.prog.godebug = none) (started : os.Started) (noInit : C.prog.inits.idxOf? f = none) (hfn : C.prog.funcs[f]? = some fn)
    (witness : ∃ (w : World) (tape : Tape) (i : Input), w.os = os ∧ (w.forCall tape i).Shaped C.prog ∧ i.vars = [] ∧ Input.okWide C.prog (w.forCall tape i) .any w.heap.size f i ∧
      ((s.pre enc C.prog fn conds apart (w.forCall tape i).memory i.args ∧ X (w.forCall tape i).memory i.args) ∧ sizedMet enc C.prog fn (OpenSpec.ofChange s) apart (w.forCall tape i).memory i.args) ∧ a.holds C.prog (lone (Frame.enter C.prog f i.args .normal) [] (w.forCall tape i)))
    (contract : ∀ (W : World) (base : Nat) (args : Array Value) (ds gs : List (DataW H)) (before : List MemPlace),
      (∀ (j : Nat) t v, fn.params[j]? = some t → args[j]? = some v → Value.okWide C.prog W .any base t v) →
      DataW.Whole enc C.prog fn.params.toList s.vars apart W args.toList ds gs before → X W args → W.ShapedOpen C.prog →
      Calls C.prog f args W fun e W' => ∃ v, e = .returned v ∧ s.post enc C.prog fn apart fresh handsOn again W args v W') :
    ReturnsInHanded a C os f .any (fun w args => (s.pre enc C.prog fn conds apart w args ∧ X w args) ∧ sizedMet enc C.prog fn (OpenSpec.ofChange s) apart w args) (s.post enc C.prog fn apart fresh handsOn again) := by
  refine returnsInHanded_of_calls own started noInit witness ?_
  intro w tape i _ hsh _ hok hpre _
  obtain ⟨_, _, _, fn', hfn', _, _, _, _, hval⟩ := hok
  have e : fn' = fn := Option.some.inj (hfn'.symm.trans hfn)
  subst e
  obtain ⟨⟨⟨ds, gs, before, hw, _⟩, hx⟩, _⟩ := hpre
  refine (contract (w.forCall tape i) w.heap.size i.args ds gs before hval (DataW.Whole.of_heap (w' := w.forCall tape i) (by rfl) hw) (hX _ _ _ (by rfl) hx) hsh).mono fun e W' ⟨v, he, hp⟩ => ?_
  subst he
  exact ChangeSpec.post_blind hp
end Go.Proofs.YtckefhnobflhcaaDoor.V
