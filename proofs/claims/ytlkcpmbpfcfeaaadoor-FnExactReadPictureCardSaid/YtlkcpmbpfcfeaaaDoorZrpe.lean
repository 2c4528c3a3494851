/- Part 5 of the texts that this proof stands on: a symbolic walk over the program, what its functions and the reference's do, plain laws. -/
import Derived.Test.YtlkcpmbpfcfeaaaDoorZrpd
import Derived.Test.YtlkcpmbpfcfeaaaDoorV20
import Derived.Test.YtlkcpmbpfcfeaaaDoorSh
import Derived.Test.YtlkcpmbpfcfeaaaDoorTi
import Derived.Test.YtlkcpmbpfcfeaaaDoorZrpa
import Derived.Lib.SplitLaws
import Derived.Lib.Strings
import Derived.Lib.Replace
import Derived.Test.YtlkcpmbpfcfeaaaDoorZrpb
import Derived.Laws.IdiomStrings
import Derived.Lib.SmallJoins
import Derived.Lib.ItoaNum
import Derived.Test.YtlkcpmbpfcfeaaaDoorZrpc
import Derived.Lib.ConvBytes
import Derived.Test.YtlkcpmbpfcfeaaaDoorRows
import Derived.Test.YtlkcpmbpfcfeaaaDoorV14
import Derived.ProofKit
import Derived.LaidMore
import Derived.OpenShut
import Derived.Stop.Joined
import Derived.Shelf.Vars
import Derived.Lay
set_option linter.all false

/- strings.Join and strings.Builder: contracts (out of the kit's shelf), and a quiet call walked in a frame of its own. -/
namespace Go.Proofs.YtlkcpmbpfcfeaaaDoor.V
/-- A string, by its bytes. -/
def S8 (b : List UInt8) : ByteArray := ⟨b.toArray⟩
@[go_sem] theorem S8_add (a b : List UInt8) : S8 a ++ S8 b = S8 (a ++ b) := by
  apply ByteArray.ext
  simp [S8]
@[go_sem] theorem S8_size (a : List UInt8) : (S8 a).size = a.length := by simp [S8, ByteArray.size]
theorem S8_list (a : List UInt8) : (S8 a).data.toList = a := by simp [S8]
/-- A memory that may only be read, of which no row is one's own. -/
def roS (s : Seg) : Seg := ⟨s.n, s.c, false, none⟩
def ro (h : List (Nat × Seg)) : List (Nat × Seg) := h.map fun p => (p.1, roS p.2)
theorem hget_ro (h : List (Nat × Seg)) (i : Nat) : hget (ro h) i = (hget h i).map roS := by
  induction h with
  | nil => rfl
  | cons p h ih =>
    obtain ⟨k, s⟩ := p
    show (if k = i then some (roS s) else hget (ro h) i) = _
    simp only [hget]
    by_cases e : k = i
    · rw [if_pos e, if_pos e]; rfl
    · rw [if_neg e, if_neg e]; exact ih
theorem ro_some {h : List (Nat × Seg)} {i : Nat} {s : Seg} (hs : hget h i = some s) : hget (ro h) i = some (roS s) := by rw [hget_ro, hs]; rfl
/-- A quiet call may be walked in a frame of its own. -/
theorem callQ_fresh {P : Program} {cx : Cx} {f : Nat} {args : List SV} {h : List (Nat × Seg)} {n : Nat} {r : SV} (hrl : r.lt n)
    (hc : ∀ w0, CallE P ⟨w0, Noth, 0, n⟩ f args (ro h) n fun v _ _ => v = r) : CallQ P cx f args h n r := by
  have h0 := hc (⟨#[], fun _ => fun _ => 0, 0, default, default⟩ : World)
  refine ⟨h0.1, h0.2.1, hrl, fun ρ w sh hargs => ?_⟩
  have sub : ∀ i t, hget (ro h) i = some t → ∃ s, hget h i = some s ∧ t = roS s := fun i t ht => by
    rw [hget_ro] at ht
    cases hs : hget h i with
    | none => rw [hs] at ht; cases ht
    | some s => rw [hs] at ht; cases ht; exact ⟨s, rfl, rfl⟩
  have sh' : SatH ⟨w, Noth, 0, n⟩ ρ (ro h) n w := by
    refine ⟨Keeps.refl _ _, fun i t ht => ?_, fun i j x y hij hx hy hw => ?_, fun i t ht => ?_⟩
    · obtain ⟨s, hs, rfl⟩ := sub i t ht
      have := sh.seg i s hs
      exact ⟨this.blk, this.cells, (fun e => by cases e), (fun _ _ e => by cases e)⟩
    · obtain ⟨s, hs, rfl⟩ := sub i x hx
      rcases hw with e | e <;> cases e
    · obtain ⟨s, hs, rfl⟩ := sub i t ht
      exact sh.lt i s hs
  refine ((hc w).2.2 ρ w sh' hargs).mono fun e w' he => ?_
  obtain ⟨ρ', v, h', n', h1, h2, rfl, h4, h5, rfl⟩ := he
  exact ⟨by rw [den_congr h1 _ hrl], sh.keep h5.keeps⟩
/-- Strings in a row. -/
def strsC (L : List (List UInt8)) : Nat → SV := fun k => .str (S8 (L.getD k []))
section
variable (cx : Cx) (h : List (Nat × Seg)) (n : Nat)
theorem join_Q (i cap : Nat) (L : List (List UInt8)) (sep : List UInt8) (s : Seg) (hs : hget h i = some s) (hi : i < n) (hn : L.length ≤ s.n) (hc : ∀ k, k < L.length → s.c k = strsC L k) (hcap : L.length ≤ cap) (h9 : L.length ≤ 1000000)
    (hl : (Lib.join L sep).length ≤ 100000000) : CallQ Tryd.prog cx 15 [.sl i 0 L.length cap, .str (S8 sep)] h n (.str (S8 (Lib.join L sep))) := by
  refine ⟨Tryd.call15, by simp only [go_sem, and_self], trivial, fun ρ w sh _ => ?_⟩
  have hseg := sh.seg i s hs
  have e1 : (L.map S8).map (·.data.toList) = L := by
    rw [List.map_map]
    have : ((fun x : ByteArray => x.data.toList) ∘ S8) = id := by funext a; exact S8_list a
    rw [this, List.map_id]
  have := Tryd.strings_Join (ρ i).1 (ρ i).2 cap (L.map S8) (S8 sep) w (fun j x hx => by
    rw [List.getElem?_map] at hx
    cases hL : L[j]? with
    | none => rw [hL] at hx; cases hx
    | some b =>
      rw [hL] at hx
      cases hx
      have hj : j < L.length := (List.getElem?_eq_some_iff.1 hL).1
      have := hseg.cells j (by omega)
      rw [hc j hj] at this
      rw [this]
      show some (Value.string (S8 (L.getD j []))) = _
      rw [List.getD_eq_getElem?_getD, hL]; rfl) hseg.blk (by rw [List.length_map]; omega) (by rw [List.length_map]; exact hcap) (by rw [e1, S8_list]; omega)
  rw [e1, S8_list, List.length_map] at this
  refine this.mono fun e w' he => ⟨he.1, sh.keep (Keeps.of_below he.2)⟩
/-- What lies in the memory of a builder that holds some bytes. -/
def Bld (h : List (Nat × Seg)) (lo n i : Nat) (b : List UInt8) : Prop :=
  ∃ p V, hget h i = some ⟨2, cl [p, V], true, some (56, 2)⟩ ∧ (p = .raw (.pointer none) ∨ p = .ptr i 0) ∧ lo ≤ i ∧ i < n ∧
    ((V = .nils ∧ b = []) ∨ ∃ j cap sg, V = .sl j 0 b.length cap ∧ lo ≤ j ∧ j ≠ i ∧ j < n ∧ hget h j = some sg ∧ sg.own = some (5, cap) ∧ sg.rw = true ∧ b.length ≤ cap ∧ cap ≤ maxLen ∧ 0 < cap ∧ b.length ≤ sg.n ∧ ∀ k, k < b.length → sg.c k = bytesC b k)
theorem copyCheck_E (i : Nat) (p V : SV) (hs : hget h i = some ⟨2, cl [p, V], true, some (56, 2)⟩) (hp : p = .raw (.pointer none) ∨ p = .ptr i 0) (hi : i < n) (K : HK)
    (hK : K (.tup 0 (cl [])) (hset h i ⟨2, cl [.ptr i 0, V], true, some (56, 2)⟩) n) : CallE Tryd.prog cx 35 [.ptr i 0] h n K := by
  refine ⟨Tryd.call35, by simp only [go_sem, and_self], fun ρ w sh _ => ?_⟩
  have hseg := sh.seg i _ hs
  obtain ⟨hz, hbase, cur, hheap, hcur⟩ := hseg.own _ _ rfl
  have hc0 : w.cell? ⟨(ρ i).1, 0, none⟩ = some (den ρ p) := by
    have := hseg.cells 0 (by show 0 < 2; omega)
    rw [hz] at this
    exact this
  have hf0 : w.frozen? ⟨(ρ i).1, 0, none⟩ = false := by
    have := (hseg.rwf rfl 0 (by show 0 < 2; omega)).1
    rw [hz] at this
    exact this
  have hsh : w.shape? (ρ i).1 = some (56, 2) := by simp [World.shape?, hheap, hcur]
  have ea : [SV.ptr i 0].map (den ρ) = [.pointer (some ⟨(ρ i).1, 0, none⟩)] := by simp [den, hz]
  rw [ea]
  rcases hp with rfl | rfl
  · refine (Any.Builder_copyCheck_fresh Tryd.lay156_240 Tryd.Builder_Extra_156.toX72 (ρ i).1 w hc0 hsh hf0).mono fun e w' he => ?_
    obtain ⟨rfl, rfl⟩ := he
    obtain ⟨_, _, h3⟩ := sh.set1 hs rfl (o := 0) (by show 0 < 2; omega) (v := .ptr i 0) hi
    rw [hz] at h3
    have eu : upd (cl [SV.raw (.pointer none), V]) 0 (.ptr i 0) = cl [.ptr i 0, V] := by
      funext k
      match k with
      | 0 => rfl
      | 1 => rfl
      | k + 2 => rfl
    simp only [eu] at h3
    refine ⟨ρ, .tup 0 (cl []), _, n, fun _ _ => rfl, Nat.le_refl _, rfl, fun j hj => absurd hj (Nat.not_lt_zero j), ?_, hK⟩
    have ed : den ρ (.ptr i 0) = .pointer (some ⟨(ρ i).1, 0, none⟩) := by simp [den, hz]
    rw [ed] at h3
    exact h3
  · have ed : den ρ (.ptr i 0) = .pointer (some ⟨(ρ i).1, 0, none⟩) := by simp [den, hz]
    rw [ed] at hc0
    refine (Any.Builder_copyCheck_used Tryd.lay156_240 Tryd.Builder_Extra_156.toX72 (ρ i).1 w hc0).mono fun e w' he => ?_
    obtain ⟨rfl, rfl⟩ := he
    rw [hset_self hs] at hK
    exact ⟨ρ, .tup 0 (cl []), h, n, fun _ _ => rfl, Nat.le_refl _, rfl, fun j hj => absurd hj (Nat.not_lt_zero j), sh, hK⟩
theorem bldString_E (lo i : Nat) (b : List UInt8) (hB : Bld h lo n i b) (hb : b ≠ []) (K : HK) (hK : K (.str (S8 b)) [] n) : CallE Tryd.prog cx 26 [.ptr i 0] h n K := by
  obtain ⟨p, V, hs, hp, h1, h2, hV⟩ := hB
  rcases hV with ⟨_, e⟩ | ⟨j, cap, sg, rfl, j1, j2, j3, j4, j5, j6, j7, j8, j9, j10, j11⟩
  · exact absurd e hb
  refine ⟨Tryd.call26, by simp only [go_sem, and_self], fun ρ w sh _ => ?_⟩
  have hseg := sh.seg i _ hs
  obtain ⟨hz, hbase, cur, hheap, hcur⟩ := hseg.own _ _ rfl
  have hsegj := sh.seg j _ j4
  obtain ⟨hzj, hbasej, curj, hheapj, hcurj⟩ := hsegj.own _ _ j5
  have ea : [SV.ptr i 0].map (den ρ) = [.pointer (some ⟨(ρ i).1, 0, none⟩)] := by simp [den, hz]
  rw [ea]
  have hcells : cur = #[den ρ p, .slice (some ⟨(ρ j).1, 0, none⟩) b.length cap] := by
    have c0 := hseg.cells 0 (by show 0 < 2; omega)
    have c1 := hseg.cells 1 (by show 1 < 2; omega)
    simp only [World.cell?, hheap, hz, Nat.zero_add] at c0 c1
    have c0 : cur[0]? = some (den ρ p) := by simpa [cl] using c0
    have c1 : cur[1]? = some (den ρ (.sl j 0 b.length cap)) := by simpa [cl] using c1
    apply Array.ext_getElem?
    intro k
    match k with
    | 0 => rw [c0]; rfl
    | 1 => rw [c1]; simp [den, hzj]
    | k + 2 => rw [Array.getElem?_eq_none (by omega), Array.getElem?_eq_none (by simp)]
  have hdisj : (ρ i).1 ≠ (ρ j).1 := by
    rcases sh.dis i j _ _ (Ne.symm j2) hs j4 (.inl rfl) with e | ⟨e, _⟩
    · exact e
    · cases e
  have hIs : Lib.IsBuilder 56 5 cx.w0.heap.size (ρ i).1 (Lib.byteCells b) w := by
    have hat : Lib.BuilderAt 56 5 cx.w0.heap.size (ρ i).1 (den ρ p) (Lib.byteCells b) w := by
      refine ⟨hbase, .slice (some ⟨(ρ j).1, 0, none⟩) b.length cap, by rw [hheap, hcells], ⟨by rw [Lib.byteCells_length, Nat.mul_one], .inr ⟨(ρ j).1, cap, curj, by rw [Lib.byteCells_length], hbasej, hheapj, by rw [Lib.byteCells_length]; exact j7, j8, by rw [hcurj, Nat.mul_one], ?_⟩⟩, by simp [Value.ownBlock]; exact Ne.symm hdisj⟩
      rw [Lib.byteCells_length, Nat.mul_one]
      apply List.ext_getElem?
      intro k
      by_cases hk : k < b.length
      · rw [List.getElem?_take_of_lt hk, Array.getElem?_toList]
        have := hsegj.cells k (by omega)
        simp only [World.cell?, hheapj, hzj, Nat.zero_add] at this
        have h3 : curj[k]? = some (den ρ (bytesC b k)) := by rw [← j11 k hk]; simpa using this
        rw [h3]
        unfold Lib.byteCells bytesC
        rw [List.getElem?_map, List.getElem?_eq_getElem hk, List.getD_eq_getElem?_getD, List.getElem?_eq_getElem hk]
        rfl
      · rw [List.getElem?_eq_none (by simp; omega), List.getElem?_eq_none (by rw [Lib.byteCells_length]; omega)]
    rcases hp with rfl | rfl
    · exact .inl hat
    · have ed : den ρ (.ptr i 0) = .pointer (some ⟨(ρ i).1, 0, none⟩) := by simp [den, hz]
      rw [ed] at hat
      exact .inr hat
  refine (Tryd.Builder_String cx.w0.heap.size (ρ i).1 b w hIs hb).mono fun e w' he => ?_
  obtain ⟨rfl, hbel⟩ := he
  refine ⟨ρ, .str (S8 b), [], n, fun _ _ => rfl, Nat.le_refl _, rfl, trivial, ⟨⟨hbel.os.trans sh.keeps.os, hbel.tape.trans sh.keeps.tape, hbel.output.trans sh.keeps.output, Nat.le_trans sh.keeps.size hbel.size, fun x hx => ?_⟩, fun i t ht => (by cases ht), fun i j x y _ hx => (by cases hx), fun i t ht => (by cases ht)⟩, hK⟩
  exact (sh.keeps.blk x hx).trans (W' := cx.W x) (ObjK.of_eq (hbel.block x hx)) fun _ h => h
end
end Go.Proofs.YtlkcpmbpfcfeaaaDoor.V

/- WriteString: the walk. -/
namespace Go.Proofs.YtlkcpmbpfcfeaaaDoor.V
@[go_sem] theorem ofV_nilIface : ofV .nilIface = .raw .nilIface := rfl
theorem u8_U8 : U8 (ti 5) := ⟨rfl, rfl, rfl, rfl⟩
section
variable (cx : Cx) (h : List (Nat × Seg)) (n : Nat)
theorem writeStr_E (lo i : Nat) (b s : List UInt8) (hB : Bld h lo n i b) (h0 : 0 < s.length) (h9 : b.length + s.length ≤ 1000000000) (K : HK)
    (hK : ∀ h' n', n ≤ n' → HExt lo h h' → HOk n' h' → Bld h' lo n' i (b ++ s) → K (.tup 2 (cl [.int .i64 s.length, .raw .nilIface])) h' n') :
    CallE Tryd.prog cx 25 [.ptr i 0, .str (S8 s)] h n K := by
  obtain ⟨p, V, hs, hp, h1, h2, hV⟩ := hB
  refine CallE.hokE ?_
  refine callE_of_T (P := Tryd.prog) hti (nt := 19) (rs := [.tmp 4, .tmp 5]) rfl rfl Tryd.call25 Tryd.func25 rfl _ (by simp only [go_sem, and_self]) (Nat.le_of_ble_eq_true rfl) _ fun hok => ?_
  simp only [go_sem, Nat.reduceLT]
  refine callA_false (copyCheck_E _ _ _ i p V hs hp h2 _ ?_)
  have hs1 := hget_hset_self hs ⟨2, cl [.ptr i 0, V], true, some (56, 2)⟩
  have ok1 : HOk n (hset h i ⟨2, cl [.ptr i 0, V], true, some (56, 2)⟩) := HOk.hset hok fun k hk => by
    have hk : k < 2 := hk
    match k with
    | 0 => exact h2
    | 1 => exact (hok i _ hs).2 1 (by show 1 < 2; omega)
    | k + 2 => omega
  rcases hV with ⟨rfl, rfl⟩ | ⟨j, cap, sg, rfl, j1, j2, j3, j4, j5, j6, j7, j8, j9, j10, j11⟩
  · have hsz : (S8 s).size = s.length := S8_size s
    simp only [go_sem, Nat.reduceLT, reduceCtorEq, hs1, h2]
    refine ⟨rfl, strNil_sem hti (e := 5) (s := S8 s) rfl (by simp [dok]) rfl rfl u8_U8 rfl rfl (by omega) (by omega) fun cap c1 c2 => ?_⟩
    rw [hsz] at c1
    rw [S8_list, hsz]
    have hmi : (n == i) = false := by simp; omega
    have hsi : hget ((n, ⟨s.length, bytesC s, true, some (5, cap)⟩) :: hset h i ⟨2, cl [.ptr i 0, .nils], true, some (56, 2)⟩) i = some ⟨2, cl [.ptr i 0, .nils], true, some (56, 2)⟩ := by simp only [hget]; rw [if_neg (by omega)]; exact hs1
    have hli : i < n + 1 := by omega
    simp only [go_sem, Nat.reduceLT, Nat.reduceEqDiff, reduceIte, reduceCtorEq, hsi, hli]
    refine fun ok' => hK _ (n + 1) (by omega) (fun z hz t ht => ?_) ok' ?_
    · rw [hget_hset, if_neg (by omega)]
      simp only [hget]
      rw [if_neg (by omega), hget_hset, if_neg (by omega)]
      exact ht
    · rw [List.nil_append]
      refine ⟨.ptr i 0, .sl n 0 s.length cap, hget_hset_self hsi _, .inr rfl, h1, by omega, .inr ⟨n, cap, ⟨s.length, bytesC s, true, some (5, cap)⟩, rfl, by omega, by omega, by omega, ?_, rfl, rfl, c1, c2, by omega, Nat.le_refl _, fun _ _ => rfl⟩⟩
      rw [hget_hset, if_neg (by omega)]
      exact hget_hit _ _ _
  · have hsz : (S8 s).size = s.length := S8_size s
    have hj1 : hget (hset h i ⟨2, cl [.ptr i 0, .sl j 0 b.length cap], true, some (56, 2)⟩) j = some sg := by rw [hget_hset, if_neg (Ne.symm j2)]; exact j4
    simp only [go_sem, Nat.reduceLT, reduceCtorEq, hs1, h2]
    refine ⟨rfl, strOwn_sem hti (e := 5) (s := S8 s) (b := b) (sg := sg) rfl (by simp [dok]) rfl rfl u8_U8 rfl rfl (by omega) hj1 j5 j7 j8 j9 j10 rfl j11 fun cap' c1 c2 => ?_⟩
    rw [hsz] at c1
    rw [S8_list, hsz]
    have hsi : hget ((n, ⟨b.length + s.length, bytesC (b ++ s), true, some (5, cap')⟩) :: hdel (hset h i ⟨2, cl [.ptr i 0, .sl j 0 b.length cap], true, some (56, 2)⟩) j) i = some ⟨2, cl [.ptr i 0, .sl j 0 b.length cap], true, some (56, 2)⟩ := by simp only [hget]; rw [if_neg (by omega), hget_hdel, if_neg j2]; exact hs1
    have hli : i < n + 1 := by omega
    simp only [go_sem, Nat.reduceLT, Nat.reduceEqDiff, reduceIte, reduceCtorEq, hsi, hli]
    refine fun ok' => hK _ (n + 1) (by omega) (fun z hz t ht => ?_) ok' ?_
    · rw [hget_hset, if_neg (by omega)]
      simp only [hget]
      rw [if_neg (by omega), hget_hdel, if_neg (by omega), hget_hset, if_neg (by omega)]
      exact ht
    · refine ⟨.ptr i 0, .sl n 0 (b.length + s.length) cap', hget_hset_self hsi _, .inr rfl, h1, by omega, .inr ⟨n, cap', ⟨b.length + s.length, bytesC (b ++ s), true, some (5, cap')⟩, by rw [List.length_append], by omega, by omega, by omega, ?_, rfl, rfl, by rw [List.length_append]; exact c1, c2, by omega, by rw [List.length_append]; exact Nat.le_refl _, fun _ _ => rfl⟩⟩
      rw [hget_hset, if_neg (by omega)]
      exact hget_hit _ _ _
end
end Go.Proofs.YtlkcpmbpfcfeaaaDoor.V

/- The lines of a sheet's text: the walk. -/
namespace Go.Proofs.YtlkcpmbpfcfeaaaDoor.V
def rowL (W : Nat) (sep : List UInt8) (wd : Nat → Nat → List UInt8) (y : Nat) : List UInt8 := Lib.join ((List.range W).map fun x => wd x y) sep
/-- A text with a line for each row. -/
def linesK (W : Nat) (sep : List UInt8) (wd : Nat → Nat → List UInt8) : Nat → List UInt8
  | 0 => []
  | k + 1 => linesK W sep wd k ++ (rowL W sep wd k ++ [10])
theorem joinTail_le (sep : List UInt8) (m : Nat) : ∀ (L : List (List UInt8)), (∀ a ∈ L, a.length ≤ m) → (Lib.joinTail sep L).length ≤ L.length * (m + sep.length)
  | [], _ => by simp [Lib.joinTail]
  | a :: L, h => by
    have ih := joinTail_le sep m L fun b hb => h b (List.mem_cons_of_mem _ hb)
    have h1 := h a (List.mem_cons_self ..)
    have e : Lib.joinTail sep (a :: L) = (sep ++ a) ++ Lib.joinTail sep L := by simp [Lib.joinTail]
    rw [e, List.length_append, List.length_append, List.length_cons, Nat.add_mul]
    omega
theorem join_le (sep : List UInt8) (m : Nat) (L : List (List UInt8)) (h : ∀ a ∈ L, a.length ≤ m) : (Lib.join L sep).length ≤ L.length * (m + sep.length) := by
  cases L with
  | nil => simp [Lib.join_nil]
  | cons a L =>
    have ih := joinTail_le sep m L fun b hb => h b (List.mem_cons_of_mem _ hb)
    have h1 := h a (List.mem_cons_self ..)
    rw [Lib.join_cons, List.length_append, List.length_cons, Nat.add_mul]
    omega
theorem rowL_le {W : Nat} {sep : List UInt8} {wd : Nat → Nat → List UInt8} (hs : sep.length ≤ 10) (hw : ∀ x y, (wd x y).length ≤ 1000) (hW : W ≤ 8) (y : Nat) : (rowL W sep wd y).length ≤ 8080 := by
  unfold rowL
  have := join_le sep 1000 ((List.range W).map fun x => wd x y) (fun a ha => by
    obtain ⟨x, _, rfl⟩ := List.mem_map.1 ha
    exact hw x y)
  rw [List.length_map, List.length_range] at this
  have h2 : W * (1000 + sep.length) ≤ 8 * 1010 := Nat.mul_le_mul hW (by omega)
  omega
theorem linesK_le {W : Nat} {sep : List UInt8} {wd : Nat → Nat → List UInt8} (hs : sep.length ≤ 10) (hw : ∀ x y, (wd x y).length ≤ 1000) (hW : W ≤ 8) : ∀ k, (linesK W sep wd k).length ≤ 9000 * k
  | 0 => by simp [linesK]
  | k + 1 => by
    have ih := linesK_le hs hw hW k
    have := rowL_le hs hw hW k
    rw [linesK, List.length_append, List.length_append, List.length_singleton]
    omega
/-- A list of strings to which one may append. -/
def StrO (h : List (Nat × Seg)) (lo n : Nat) (V : SV) (L : List (List UInt8)) : Prop :=
  ∃ j cap s, V = .sl j 0 L.length cap ∧ lo ≤ j ∧ j < n ∧ hget h j = some s ∧ s.own = some (9, cap) ∧ s.rw = true ∧ s.n = L.length ∧ L.length ≤ cap ∧ cap ≤ maxLen ∧ ∀ k, k < L.length → s.c k = strsC L k
theorem strApp1 {h hq : List (Nat × Seg)} {n nq jv cap : Nat} {A : List (List UInt8)} {a : List UInt8} {sc c1 : Nat → SV} {w : Option (Nat × Nat)} (I1 : n ≤ nq) (I2 : HOk nq hq) (I3 : HExt n h hq) (v1 : n ≤ jv) (c10 : c1 0 = .str (S8 a))
    (v9 : ∀ k, k < A.length → sc k = strsC A k) (m1 : A.length + 1 ≤ cap) (m2 : cap ≤ maxLen) :
    HOk (nq + 2) ((nq + 1, ⟨A.length + 1, both A.length sc (news c1 0), true, some (9, cap)⟩) :: (nq, ⟨1, c1, true, w⟩) :: hdel hq jv) ∧
    HExt n h ((nq + 1, ⟨A.length + 1, both A.length sc (news c1 0), true, some (9, cap)⟩) :: (nq, ⟨1, c1, true, w⟩) :: hdel hq jv) ∧
    StrO ((nq + 1, ⟨A.length + 1, both A.length sc (news c1 0), true, some (9, cap)⟩) :: (nq, ⟨1, c1, true, w⟩) :: hdel hq jv) n (nq + 2) (.sl (nq + 1) 0 (A.length + 1) cap) (A ++ [a]) := by
  have hbo : ∀ k, k < A.length + 1 → both A.length sc (news c1 0) k = strsC (A ++ [a]) k := fun k hk => by
    unfold both news
    split
    · rename_i hk2
      rw [v9 k hk2]
      unfold strsC
      rw [List.getD_eq_getElem?_getD, List.getD_eq_getElem?_getD, List.getElem?_append_left hk2]
    · rename_i hk2
      have e : k = A.length := by omega
      subst e
      rw [Nat.sub_self, Nat.zero_add, c10]
      unfold strsC
      simp
  have okd : HOk nq (hdel hq jv) := fun i t hi => by
    rw [hget_hdel] at hi
    split at hi
    · cases hi
    · exact I2 i t hi
  refine ⟨fun i t hi => ?_, fun z hz t ht => ?_, nq + 1, cap, _, by rw [List.length_append]; rfl, by omega, by omega, hget_hit _ _ _, rfl, rfl, by rw [List.length_append]; rfl, by rw [List.length_append]; exact m1, m2, fun k hk => hbo k (by rw [List.length_append] at hk; exact hk)⟩
  · simp only [hget] at hi
    split at hi
    · rename_i e; cases hi
      refine ⟨by omega, fun k hk => ?_⟩
      show (both A.length sc (news c1 0) k).lt _
      rw [hbo k hk]; trivial
    · split at hi
      · rename_i e; cases hi
        refine ⟨by omega, fun k hk => ?_⟩
        have hk : k < 1 := hk
        have e : k = 0 := by omega
        subst e
        show (c1 0).lt _
        rw [c10]; trivial
      · exact ⟨by have := (okd i t hi).1; omega, fun k hk => SV.lt_mono (by omega) _ ((okd i t hi).2 k hk)⟩
  · simp only [hget]
    rw [if_neg (by omega), if_neg (by omega), hget_hdel, if_neg (by omega)]
    exact I3 z hz t ht
theorem Bld.ext {h h' : List (Nat × Seg)} {lo n n' i : Nat} {b : List UInt8} (hB : Bld h lo n i b) (hn : n ≤ n') (hx : HExt n h h') : Bld h' lo n' i b := by
  obtain ⟨p, V, hs, hp, h1, h2, hV⟩ := hB
  refine ⟨p, V, hx i h2 _ hs, hp, h1, by omega, ?_⟩
  rcases hV with e | ⟨j, cap, sg, e, j1, j2, j3, j4, j5⟩
  · exact .inl e
  · exact .inr ⟨j, cap, sg, e, j1, j2, by omega, hx j j3 _ j4, j5⟩
section
variable (cx : Cx) (h : List (Nat × Seg)) (n : Nat)
set_option maxHeartbeats 1600000 in
theorem lines_E (w0 : World) (j o : Nat) (sg : Seg) (W H : Nat) (sep : List UInt8) (f a b : Nat) (G F : Nat → SV) (wd : Nat → Nat → List UInt8)
    (hs : hget h j = some sg) (hj : j < n) (ho : o + 2 ≤ sg.n) (hw : sg.c o = .int .i8 W) (hh : sg.c (o + 1) = .int .i8 H) (w1 : 1 ≤ W) (hW8 : W ≤ 8) (h1 : 1 ≤ H) (h8 : H ≤ 8) (hsep : sep.length ≤ 10) (hwd : ∀ x y, (wd x y).length ≤ 1000) (hF : (SV.fn f a G b F).lt n)
    (hof : ∀ (x y : Nat), x < W → y < H → ∀ (nt n0 : Nat) (h' : List (Nat × Seg)) (n' : Nat), n ≤ n' → HExt n (ro h) h' → CallQ Tryd.prog ⟨w0, Noth, nt, n0⟩ f (lst a G ++ [spot x y] ++ lst b F) h' n' (.str (S8 (wd x y)))) :
    CallE Tryd.prog ⟨w0, Noth, 0, n⟩ 27 [.ptr j o, .str (S8 sep), .fn f a G b F] (ro h) n fun v _ _ => v = .str (S8 (linesK W sep wd H)) := by
  have hFm : ∀ m, n ≤ m → (∀ j, j < a → (G j).lt m) ∧ ∀ j, j < b → (F j).lt m := fun m hm => ⟨fun j hj => SV.lt_mono hm _ (hF.1 j hj), fun j hj => SV.lt_mono hm _ (hF.2 j hj)⟩
  have hsr : hget (ro h) j = some ⟨sg.n, sg.c, false, none⟩ := ro_some hs
  generalize ro h = hr at *
  refine callE_of_T (P := Tryd.prog) hti (nt := 43) (rs := [.tmp 6]) rfl rfl Tryd.call27 Tryd.func27 rfl _ (by simp only [go_sem, and_self]) (Nat.le_of_ble_eq_true rfl) _ fun hok => ?_
  have b1 : o + 1 ≤ sg.n := by omega
  have b2 : o + 1 + 1 ≤ sg.n := by omega
  have b3 : o ≤ sg.n - 1 := by omega
  have b4 : o + 1 ≤ sg.n - 1 := by omega
  have b5 : 1 ≤ sg.n := by omega
  have b6 : o < sg.n := by omega
  have b7 : o + 1 < sg.n := by omega
  simp only [go_sem, Nat.reduceLT, reduceIte, reduceCtorEq, hsr, hj, hh, b1, b2, b3, b4, b5, b6, b7]
  refine ⟨rfl, ?_⟩
  have ok0 : HOk (n + 1) ((n, ⟨2, cl [.raw (.pointer none), .nils], true, some (56, 2)⟩) :: hr) := fun i t hi => by
    simp only [hget] at hi
    split at hi
    · rename_i e; cases hi
      refine ⟨by omega, fun k hk => ?_⟩
      have hk : k < 2 := hk
      match k with
      | 0 => trivial
      | 1 => trivial
      | k + 2 => omega
    · exact ⟨by have := (hok i t hi).1; omega, fun k hk => SV.lt_mono (by omega) _ ((hok i t hi).2 k hk)⟩
  have B0 : Bld ((n, ⟨2, cl [.raw (.pointer none), .nils], true, some (56, 2)⟩) :: hr) n (n + 1) n [] := ⟨_, _, hget_hit _ _ _, .inl rfl, Nat.le_refl _, by omega, .inl ⟨rfl, rfl⟩⟩
  have X0 : HExt n hr ((n, ⟨2, cl [.raw (.pointer none), .nils], true, some (56, 2)⟩) :: hr) := fun z hz t ht => by simp only [hget]; rw [if_neg (by omega)]; exact ht
  generalize ((n, (⟨2, cl [.raw (.pointer none), .nils], true, some (56, 2)⟩ : Seg)) :: hr) = h0 at *
  refine T_lp (ι := { q : Nat × List (Nat × Seg) × Nat // q.1 ≤ H ∧ n + 1 ≤ q.2.2 ∧ HOk q.2.2 q.2.1 ∧ HExt n hr q.2.1 ∧ Bld q.2.1 n q.2.2 n (linesK W sep wd q.1) })
    (fun q => ([(0, .ptr j o), (1, .str (S8 sep)), (2, .fn f a G b F), (7, .ptr n 0), (15, .int .i8 H), (16, .int .i8 q.1.1)], q.1.2.1, q.1.2.2)) (fun q => H - q.1.1) ⟨(0, h0, n + 1), Nat.zero_le _, Nat.le_refl _, ok0, X0, B0⟩ ?_ ?_
  · refine Imp.id (by show n ≤ n + 1; omega) ?_ (impH.base0 ok0 (Nat.le_refl _) HExt.rfl)
    simp only [go_sem, Nat.reduceLT]
    exact ⟨by omega, hFm _ (by omega), by omega⟩
  rintro ⟨⟨y, hq, nq⟩, hyH, hnq, okq, xq, Bq⟩
  simp only at hyH hnq okq xq Bq
  have sq := xq j hj _ hsr
  have jq : j < nq := by omega
  have hll := linesK_le (wd := wd) hsep hwd hW8 y
  simp only [go_sem, Nat.reduceLT, reduceCtorEq, decide_eq_true_eq, decide_eq_false_iff_not]
  refine ⟨fun hy1 => ?_, fun hy1 => ?_⟩
  rotate_left
  · have e : y = H := by omega
    subst e
    refine callA_false (bldString_E _ _ _ n n _ Bq (by
      obtain ⟨k, rfl⟩ : ∃ k, y = k + 1 := ⟨y - 1, by omega⟩
      rw [linesK]
      simp) _ ?_)
    simp only [go_sem, Nat.reduceLT]
    done
  simp only [go_sem, Nat.reduceLT, sq, jq, hw, b1, b2, b3, b4, b5, b6, b7]
  generalize zrow _ = Z
  have ok1 : HOk (nq + 1) ((nq, ⟨0, Z, true, some (9, 0)⟩) :: hq) := fun i t hi => by
    simp only [hget] at hi
    split at hi
    · rename_i e; cases hi
      exact ⟨by omega, fun k hk => absurd hk (Nat.not_lt_zero k)⟩
    · exact ⟨by have := (okq i t hi).1; omega, fun k hk => SV.lt_mono (by omega) _ ((okq i t hi).2 k hk)⟩
  have X1 : HExt nq hq ((nq, ⟨0, Z, true, some (9, 0)⟩) :: hq) := fun z hz t ht => by simp only [hget]; rw [if_neg (by omega)]; exact ht
  have S1 : StrO ((nq, ⟨0, Z, true, some (9, 0)⟩) :: hq) nq (nq + 1) (.sl nq 0 0 0) [] := ⟨nq, 0, _, rfl, Nat.le_refl _, by omega, hget_hit _ _ _, rfl, rfl, rfl, Nat.le_refl _, Nat.zero_le _, fun k hk => absurd hk (Nat.not_lt_zero k)⟩
  generalize ((nq, (⟨0, Z, true, some (9, 0)⟩ : Seg)) :: hq) = h1 at *
  refine T_lp (ι := { q : Nat × List (Nat × Seg) × Nat × SV // q.1 ≤ W ∧ nq + 1 ≤ q.2.2.1 ∧ HOk q.2.2.1 q.2.1 ∧ HExt nq hq q.2.1 ∧ StrO q.2.1 nq q.2.2.1 q.2.2.2 ((List.range q.1).map fun x => wd x y) })
    (fun q => ([(0, .ptr j o), (1, .str (S8 sep)), (2, .fn f a G b F), (7, .ptr n 0), (15, .int .i8 H), (16, .int .i8 y), (8, .int .i8 y), (9, q.1.2.2.2), (23, .int .i8 W), (24, .int .i8 q.1.1)], q.1.2.1, q.1.2.2.1)) (fun q => W - q.1.1) ⟨(0, h1, nq + 1, .sl nq 0 0 0), Nat.zero_le _, Nat.le_refl _, ok1, X1, S1⟩ ?_ ?_
  · refine Imp.id (by show n ≤ nq + 1; omega) ?_ (impH.base0 ok1 (Nat.le_refl _) HExt.rfl)
    simp only [go_sem, Nat.reduceLT]
    exact ⟨by omega, hFm _ (by omega), by omega, by omega⟩
  rintro ⟨⟨x, hx, nx, V⟩, hxW, hnx, okx, xx, Sx⟩
  simp only at hxW hnx okx xx Sx
  have Xx : HExt n hr hx := xq.tr xx (by omega)
  obtain ⟨jv, capV, ⟨sn, sc, sr, so⟩, rfl, v1, v2, v3, v4, v5, v6, v7, v8, v9⟩ := Sx
  simp only at v4 v5 v6 v9
  subst v4 v5 v6
  have hlx : ((List.range x).map fun x => wd x y).length = x := by simp
  simp only [go_sem, Nat.reduceLT, Nat.reduceLeDiff, decide_eq_true_eq, decide_eq_false_iff_not]
  refine ⟨fun hx1 => ?_, fun hx1 => ?_⟩
  · have nv3 : nx ≠ jv := by omega
    refine (hof x y (by omega) (by omega) _ _ hx nx (by omega) Xx).A ?_
    generalize hL : (List.range x).map (fun x => wd x y) = L at *
    have hL1 : (List.range (x + 1)).map (fun x => wd x y) = L ++ [wd x y] := by rw [List.range_succ, List.map_append, hL]; rfl
    simp only [go_sem, Nat.reduceLT, Nat.reduceLeDiff, v3, v2, nv3]
    refine ⟨⟨v7, v8, by omega⟩, fun cap' m1 m2 => ?_⟩
    generalize hC : upd (zrow _) 0 (SV.str (S8 (wd x y))) = C
    have hC0 : C 0 = .str (S8 (wd x y)) := by rw [← hC]; rfl
    obtain ⟨okN, exN, spN⟩ := strApp1 (n := nq) (h := hq) (nq := nx) (jv := jv) (A := L) (a := wd x y) (sc := sc) (c1 := C) (w := some (9, 1)) (by omega) okx xx v1 hC0 v9 m1 m2
    refine ⟨⟨(x + 1, _, nx + 2, .sl (nx + 1) 0 (L.length + 1) cap'), by show x + 1 ≤ W; omega, by show nq + 1 ≤ nx + 2; omega, okN, exN, by show StrO _ _ _ _ ((List.range (x + 1)).map fun x => wd x y); rw [hL1]; exact spN⟩, by show W - (x + 1) < W - x; omega, ?_⟩
    refine Imp.id (by show n ≤ nx + 2; omega) ?_ (impH.base0 okN (Nat.le_refl _) HExt.rfl)
    simp only [go_sem, Nat.reduceLT, w8 (n := (x : Int) + 1) (by omega), Int.natCast_add, Int.natCast_one]
    exact ⟨by omega, hFm _ (by omega), by omega, by omega⟩
  · have e : x = W := by omega
    subst e
    have hj2 := join_le sep 1000 ((List.range x).map fun x => wd x y) (fun a ha => by
      obtain ⟨x, _, rfl⟩ := List.mem_map.1 ha
      exact hwd x y)
    have hrl := rowL_le (wd := wd) hsep hwd hW8 y
    refine (join_Q _ _ _ jv capV ((List.range x).map fun x => wd x y) sep _ v3 v2 (Nat.le_refl _) v9 v7 (by omega) (by unfold rowL at hrl; omega)).A ?_
    have e10 : (⟨#[10]⟩ : ByteArray) = S8 [10] := rfl
    simp only [go_sem, Nat.reduceLT, Nat.reduceLeDiff, e10]
    have hrl2 : (Lib.join ((List.range x).map fun x => wd x y) sep).length ≤ 8080 := hrl
    refine ⟨by omega, callA_false (writeStr_E _ hx nx n n (linesK x sep wd y) (Lib.join ((List.range x).map fun x => wd x y) sep ++ [10]) (Bq.ext (by omega) xx) (by rw [List.length_append, List.length_singleton]; omega) (by rw [List.length_append, List.length_singleton]; omega) _ ?_)⟩
    intro h3 n3 hn3 x3 ok3 B3
    simp only [go_sem, Nat.reduceLT]
    refine ⟨⟨(y + 1, h3, n3), by show y + 1 ≤ H; omega, by show n + 1 ≤ n3; omega, ok3, Xx.tr x3 (Nat.le_refl _), B3⟩, by show H - (y + 1) < H - y; omega, ?_⟩
    refine Imp.id (by show n ≤ n3; omega) ?_ (impH.base0 ok3 (Nat.le_refl _) HExt.rfl)
    simp only [go_sem, Nat.reduceLT, w8 (n := (y : Int) + 1) (by omega), Int.natCast_add, Int.natCast_one]
    exact ⟨by omega, hFm _ (by omega), by omega⟩
theorem lines_Q (j o : Nat) (sg : Seg) (W H : Nat) (sep : List UInt8) (f a b : Nat) (G F : Nat → SV) (wd : Nat → Nat → List UInt8)
    (hs : hget h j = some sg) (hj : j < n) (ho : o + 2 ≤ sg.n) (hw : sg.c o = .int .i8 W) (hh : sg.c (o + 1) = .int .i8 H) (w1 : 1 ≤ W) (hW8 : W ≤ 8) (h1 : 1 ≤ H) (h8 : H ≤ 8) (hsep : sep.length ≤ 10) (hwd : ∀ x y, (wd x y).length ≤ 1000) (hF : (SV.fn f a G b F).lt n)
    (hof : ∀ (x y : Nat), x < W → y < H → ∀ (w0 : World) (nt n0 : Nat) (h' : List (Nat × Seg)) (n' : Nat), n ≤ n' → HExt n (ro h) h' → CallQ Tryd.prog ⟨w0, Noth, nt, n0⟩ f (lst a G ++ [spot x y] ++ lst b F) h' n' (.str (S8 (wd x y)))) :
    CallQ Tryd.prog cx 27 [.ptr j o, .str (S8 sep), .fn f a G b F] h n (.str (S8 (linesK W sep wd H))) := by
  exact callQ_fresh trivial fun w0 => lines_E h n w0 j o sg W H sep f a b G F wd hs hj ho hw hh w1 hW8 h1 h8 hsep hwd hF fun x y hx hy => hof x y hx hy w0
end
end Go.Proofs.YtlkcpmbpfcfeaaaDoor.V

/- Plain laws: a text, split at a byte. -/
namespace Go.Proofs.YtlkcpmbpfcfeaaaDoor.V
/-- The pieces of a text between the bytes c. -/
def spl (c : UInt8) : List UInt8 → List (List UInt8)
  | [] => [[]]
  | b :: l => if b = c then [] :: spl c l else (b :: (spl c l).headD []) :: (spl c l).tail
theorem spl_ne (c : UInt8) : ∀ l, spl c l ≠ []
  | [] => by simp [spl]
  | b :: l => by rw [spl]; split <;> simp
theorem spl_none {c : UInt8} : ∀ {l : List UInt8}, c ∉ l → spl c l = [l]
  | [], _ => rfl
  | b :: l, h => by
    rw [List.mem_cons, not_or] at h
    rw [spl, if_neg (Ne.symm h.1), spl_none h.2]; rfl
theorem spl_app {c : UInt8} : ∀ {a : List UInt8} (l : List UInt8), c ∉ a → spl c (a ++ c :: l) = a :: spl c l
  | [], l, _ => by rw [List.nil_append, spl, if_pos rfl]
  | b :: a, l, h => by
    rw [List.mem_cons, not_or] at h
    rw [List.cons_append, spl, if_neg (Ne.symm h.1), spl_app l h.2]; rfl
theorem spl_join (c : UInt8) : ∀ l, Lib.join (spl c l) [c] = l
  | [] => by simp [spl, Lib.join_cons, Lib.joinTail]
  | b :: l => by
    have ih := spl_join c l
    obtain ⟨x, r, e⟩ : ∃ x r, spl c l = x :: r := by
      cases h : spl c l with
      | nil => exact absurd h (spl_ne c l)
      | cons x r => exact ⟨x, r, rfl⟩
    rw [spl, e]
    rw [e, Lib.join_cons] at ih
    split
    · rename_i h
      rw [Lib.join_cons]
      have : Lib.joinTail [c] (x :: r) = [c] ++ x ++ Lib.joinTail [c] r := by simp [Lib.joinTail]
      rw [this, h, ← ih]; simp
    · rw [List.headD_cons, List.tail_cons, Lib.join_cons, ← ih]; simp
theorem spl_of_join {c : UInt8} : ∀ {L : List (List UInt8)}, L ≠ [] → (∀ x ∈ L, c ∉ x) → spl c (Lib.join L [c]) = L
  | [], h, _ => absurd rfl h
  | [a], _, h => by rw [Lib.join_cons]; simp [Lib.joinTail]; exact spl_none (h a (by simp))
  | a :: b :: L, _, h => by
    have ih := spl_of_join (L := b :: L) (by simp) (fun x hx => h x (List.mem_cons_of_mem _ hx))
    have e : Lib.join (a :: b :: L) [c] = a ++ c :: Lib.join (b :: L) [c] := by rw [Lib.join_cons, Lib.join_cons]; simp [Lib.joinTail]
    rw [e, spl_app _ (h a (by simp)), ih]
theorem spl_len (c : UInt8) : ∀ l, (spl c l).length = l.count c + 1
  | [] => rfl
  | b :: l => by
    have ih := spl_len c l
    rw [spl]
    split
    · rename_i h; subst h; rw [List.length_cons, ih, List.count_cons_self]
    · rename_i h
      rw [List.count_cons_of_ne (by simpa using h), List.length_cons, List.length_tail, ih]; rfl
theorem spl_lenle {c : UInt8} : ∀ {l : List UInt8} {x : List UInt8}, x ∈ spl c l → x.length ≤ l.length
  | [], x, h => by simp [spl] at h; subst h; simp
  | b :: l, x, h => by
    rw [spl] at h
    rw [List.length_cons]
    split at h
    · rcases List.mem_cons.1 h with rfl | h
      · simp
      · have := spl_lenle h; omega
    · rcases List.mem_cons.1 h with rfl | h
      · rw [List.length_cons]
        cases e : spl c l with
        | nil => exact absurd e (spl_ne c l)
        | cons y r =>
          have := spl_lenle (c := c) (l := l) (x := y) (by rw [e]; simp)
          simpa using this
      · have := spl_lenle (l := l) (List.mem_of_mem_tail h); omega
/-- The library's split, at one byte. -/
theorem splitB_spl (c : UInt8) : ∀ (k : Nat) (s : ByteArray), Lib.countB s ⟨#[c]⟩ = k → (Lib.splitB ⟨#[c]⟩ 0 k s).map (fun x : ByteArray => x.data.toList) = spl c s.data.toList
  | k, s, hk => by
    have hc : Lib.count s.data.toList [c] = k := hk
    rw [Lib.count_one] at hc
    rcases Lib.indexB_cases s ⟨#[c]⟩ with hix | ⟨i, hix, hroom⟩
    · rw [Lib.splitB_miss _ _ _ _ hix]
      have : c ∉ s.data.toList := by
        rw [Lib.countB_miss s _ hix] at hk
        rw [← hk] at hc
        exact List.count_eq_zero.1 hc
      rw [spl_none this]; rfl
    · have hh := Lib.countB_hit s ⟨#[c]⟩ i (Nat.le_refl 1) hix
      obtain ⟨k, rfl⟩ : ∃ k', k = k' + 1 := ⟨k - 1, by omega⟩
      have s1 : (⟨#[c]⟩ : ByteArray).size = 1 := rfl
      rw [s1] at hh hroom
      have ih := splitB_spl c k (s.extract (i + 1) s.size) (by omega)
      rw [Lib.splitB_hit _ _ _ _ i hix, List.map_cons, s1, ih]
      have hi : Lib.index s.data.toList [c] = i := hix
      rw [Lib.index_one] at hi
      have key : ∀ (l : List UInt8) (i : Nat), Lib.indexByte l c = i → spl c l = l.take i :: spl c (l.drop (i + 1)) := fun l => by
        induction l with
        | nil => intro i h; simp [Lib.indexByte] at h
        | cons b l ih =>
          intro i h
          rw [Lib.indexByte] at h
          by_cases hb : b = c
          · subst hb
            rw [if_pos (by simp)] at h
            have : i = 0 := by omega
            subst this
            rw [spl, if_pos rfl]; simp
          · rw [if_neg (by simpa using hb)] at h
            by_cases hm : Lib.indexByte l c = -1
            · rw [hm, if_pos (by simp)] at h; omega
            · rw [if_neg (by simpa using hm)] at h
              obtain ⟨j, hj⟩ : ∃ j : Nat, Lib.indexByte l c = j := ⟨(Lib.indexByte l c).toNat, by have := Lib.indexByte_ge l c; omega⟩
              have e : i = j + 1 := by omega
              subst e
              rw [spl, if_neg hb, ih j hj]; simp
      rw [key _ i hi, Lib.extract_to_end]
      congr 1
      rw [Nat.add_zero, ByteArray.data_extract, Array.toList_extract, List.extract_eq_drop_take]
      simp
/-- The pieces that end before i, and where the piece at hand begins. -/
def spR (c : UInt8) (s : List UInt8) : Nat → List (List UInt8) × Nat
  | 0 => ([], 0)
  | i + 1 => if s.getD i 0 = c then ((spR c s i).1 ++ [(s.drop (spR c s i).2).take (i - (spR c s i).2)], i + 1) else spR c s i
theorem spR_le (c : UInt8) (s : List UInt8) : ∀ i, (spR c s i).2 ≤ i ∧ (spR c s i).1.length ≤ i
  | 0 => ⟨Nat.le_refl _, Nat.le_refl _⟩
  | i + 1 => by
    have := spR_le c s i
    rw [spR]
    split
    · simp; omega
    · omega
theorem spR_inv (c : UInt8) (s : List UInt8) : ∀ i, i ≤ s.length → spl c s = (spR c s i).1 ++ spl c (s.drop (spR c s i).2) ∧ c ∉ (s.drop (spR c s i).2).take (i - (spR c s i).2)
  | 0, _ => by simp [spR]
  | i + 1, h => by
    obtain ⟨h1, h2⟩ := spR_inv c s i (by omega)
    have hle := (spR_le c s i).1
    generalize hb : (spR c s i).2 = b at *
    generalize hd : (spR c s i).1 = D at *
    have hi : i < s.length := by omega
    have hsplit : s.drop b = (s.drop b).take (i - b) ++ s[i] :: s.drop (i + 1) := by
      have e := (List.take_append_drop (i - b) (s.drop b)).symm
      rw [List.drop_drop, show b + (i - b) = i by omega, List.drop_eq_getElem_cons hi] at e
      exact e
    have hg : s.getD i 0 = s[i] := by rw [List.getD_eq_getElem?_getD, List.getElem?_eq_getElem hi]; rfl
    rw [spR, hb, hd, hg]
    split
    · rename_i hc
      refine ⟨?_, by simp⟩
      rw [h1]
      conv => lhs; rw [hsplit, hc]
      rw [spl_app _ h2]
      simp
    · rename_i hc
      rw [hb, hd]
      refine ⟨h1, ?_⟩
      rw [show i + 1 - b = (i - b) + 1 by omega, List.take_succ, List.getElem?_drop, show b + (i - b) = i by omega, List.getElem?_eq_getElem hi]
      simp only [Option.toList_some, List.mem_append, List.mem_singleton, not_or]
      exact ⟨h2, Ne.symm hc⟩
theorem spR_end (c : UInt8) (s : List UInt8) : spl c s = (spR c s s.length).1 ++ [s.drop (spR c s s.length).2] := by
  obtain ⟨h1, h2⟩ := spR_inv c s s.length (Nat.le_refl _)
  rw [List.take_of_length_le (by rw [List.length_drop]; exact Nat.le_refl _)] at h2
  rw [spl_none h2] at h1
  exact h1
end Go.Proofs.YtlkcpmbpfcfeaaaDoor.V

/- Plain laws: packed pictures: letters, runs; a newline replaced by nothing. -/
namespace Go.Proofs.YtlkcpmbpfcfeaaaDoor.V
theorem join_flatJ (L : List (List UInt8)) : Lib.join L [] = L.flatten := by
  cases L with
  | nil => rfl
  | cons a L => rw [Lib.join_cons]; simp [Lib.joinTail]
/-- The letter of a number. -/
def ltr (v : Int) : UInt8 := if v = 0 then 46 else if v = 1 then 97 else if v = 2 then 98 else 99
theorem ltr_inj {v w : Int} (h0 : 0 ≤ v ∧ v ≤ 3) (h1 : 0 ≤ w ∧ w ≤ 3) (h : ltr v = ltr w) : v = w := by
  have e : ∀ a b : Fin 4, ltr a.1 = ltr b.1 → a = b := by decide
  have := e ⟨v.toNat, by omega⟩ ⟨w.toNat, by omega⟩ (by rw [show ((v.toNat : Nat) : Int) = v by omega, show ((w.toNat : Nat) : Int) = w by omega]; exact h)
  have := congrArg Fin.val this
  simp only at this
  omega
end Go.Proofs.YtlkcpmbpfcfeaaaDoor.V

/- Plain laws: pictures and their texts. -/
namespace Go.Proofs.YtlkcpmbpfcfeaaaDoor.V
/-- The number of a letter; -1 if it is none. -/
def numL (b : UInt8) : Int := if b = 46 then 0 else if b = 97 then 1 else if b = 98 then 2 else if b = 99 then 3 else -1
theorem numL_ltr {v : Int} (h : 0 ≤ v ∧ v ≤ 3) : numL (ltr v) = v := by
  rcases (by omega : v = 0 ∨ v = 1 ∨ v = 2 ∨ v = 3) with rfl | rfl | rfl | rfl <;> rfl
theorem ltr_numL {b : UInt8} (h : numL b ≠ -1) : ltr (numL b) = b := by
  unfold numL at *
  split
  · rename_i h; subst h; rfl
  · split
    · rename_i h; subst h; rfl
    · split
      · rename_i h; subst h; rfl
      · split
        · rename_i h; subst h; rfl
        · rename_i h1 h2 h3 h4
          rw [if_neg h1, if_neg h2, if_neg h3, if_neg h4] at h
          exact absurd rfl h
theorem numL_in (b : UInt8) : -1 ≤ numL b ∧ numL b ≤ 3 := by unfold numL; (repeat' split) <;> omega
theorem ltr_not10 (v : Int) : ltr v ≠ 10 := by unfold ltr; (repeat' split) <;> decide
/-- The rows of a picture's text. -/
def rowsP (P : Pc) : List (List UInt8) := (List.range P.high.toNat).map fun y : Nat => (List.range P.wide.toNat).map fun x : Nat => ltr (P.ink y x)
/-- The text of a picture. -/
def pT (P : Pc) : List UInt8 := linesK P.wide.toNat [] (fun x y : Nat => [ltr (P.ink y x)]) P.high.toNat
def nlL (L : List (List UInt8)) : List UInt8 := (L.map fun l => l ++ [10]).flatten
theorem nlL_join : ∀ (L : List (List UInt8)), nlL L = Lib.join (L ++ [[]]) [10]
  | [] => by simp [nlL, Lib.join_cons, Lib.joinTail]
  | [a] => by simp [nlL, Lib.join_cons, Lib.joinTail]
  | a :: b :: L => by
    have ih := nlL_join (b :: L)
    have e : Lib.join (a :: b :: L ++ [[]]) [10] = a ++ 10 :: Lib.join (b :: L ++ [[]]) [10] := by
      rw [List.cons_append, List.cons_append, Lib.join_cons, Lib.join_cons]; simp [Lib.joinTail]
    rw [e, ← ih]
    simp [nlL]
theorem pT_rows (P : Pc) : pT P = nlL (rowsP P) := by
  unfold pT rowsP nlL
  generalize P.high.toNat = H
  generalize P.wide.toNat = W
  have hr : ∀ y : Nat, rowL W [] (fun x y : Nat => [ltr (P.ink y x)]) y = (List.range W).map fun x : Nat => ltr (P.ink y x) := fun y => by
    unfold rowL
    rw [join_flatJ]
    have : ∀ l : List Nat, (l.map fun x : Nat => [ltr (P.ink y x)]).flatten = l.map fun x : Nat => ltr (P.ink y x) := fun l => by
      induction l with
      | nil => rfl
      | cons a l ih => rw [List.map_cons, List.flatten_cons, ih]; rfl
    exact this _
  induction H with
  | zero => rfl
  | succ H ih => rw [linesK, ih, hr, List.range_succ, List.map_append, List.map_append, List.flatten_append]; simp
theorem rowsP_not10 {P : Pc} {l : List UInt8} (h : l ∈ rowsP P) : (10 : UInt8) ∉ l := by
  unfold rowsP at h
  obtain ⟨y, _, rfl⟩ := List.mem_map.1 h
  intro hm
  obtain ⟨x, _, hx⟩ := List.mem_map.1 hm
  exact ltr_not10 _ hx
theorem rowsP_len (P : Pc) : (rowsP P).length = P.high.toNat := by simp [rowsP]
theorem rowsP_get (P : Pc) {y : Nat} (h : y < P.high.toNat) : (rowsP P).getD y [] = (List.range P.wide.toNat).map fun x : Nat => ltr (P.ink y x) := by simp [rowsP, List.getD_eq_getElem?_getD, h]
theorem rowsP_getlen (P : Pc) {y : Nat} (h : y < P.high.toNat) : ((rowsP P).getD y []).length = P.wide.toNat := by rw [rowsP_get P h]; simp
theorem rowsP_at (P : Pc) {y x : Nat} (h : y < P.high.toNat) (hx : x < P.wide.toNat) : ((rowsP P).getD y []).getD x 0 = ltr (P.ink y x) := by rw [rowsP_get P h]; simp [List.getD_eq_getElem?_getD, hx]
/-- What the text of a picture gives when it is split. -/
theorem spl_pT (P : Pc) : spl 10 (pT P) = rowsP P ++ [[]] := by
  rw [pT_rows, nlL_join]
  refine spl_of_join (by simp) fun x hx => ?_
  rcases List.mem_append.1 hx with h | h
  · exact rowsP_not10 h
  · rw [List.mem_singleton.1 h]; simp
theorem trim_pT (P : Pc) (hH : 1 ≤ P.high) : spl 10 (Lib.trimSuffix (pT P) [10]) = rowsP P := by
  have hne : rowsP P ≠ [] := fun e => by have := rowsP_len P; rw [e] at this; simp at this; omega
  have e : pT P = Lib.join (rowsP P) [10] ++ [10] := by
    rw [pT_rows]
    have : ∀ L : List (List UInt8), L ≠ [] → nlL L = Lib.join L [10] ++ [10] := fun L => by
      induction L with
      | nil => intro h; exact absurd rfl h
      | cons a L ih =>
        intro _
        cases L with
        | nil => simp [nlL, Lib.join_cons, Lib.joinTail]
        | cons b L =>
          have ih := ih (by simp)
          have e1 : nlL (a :: b :: L) = a ++ [10] ++ nlL (b :: L) := by simp [nlL]
          rw [e1, ih, Lib.join_cons, Lib.join_cons]; simp [Lib.joinTail]
    exact this _ hne
  have et : Lib.trimSuffix (pT P) [10] = Lib.join (rowsP P) [10] := by
    unfold Lib.trimSuffix
    rw [if_pos (by rw [e]; unfold Lib.hasSuffix; simp [List.isSuffixOf]), e]
    simp
  rw [et]
  exact spl_of_join hne fun x hx => rowsP_not10 hx
/-- The picture whose cells show what letters tell. -/
def pcF (W H : Nat) (f : Nat → Nat → UInt8) : Pc := ⟨W, H, fun y x => if 0 ≤ x ∧ x < W ∧ 0 ≤ y ∧ y < H then numL (f y.toNat x.toNat) else 0⟩
theorem pcF_ok {W H : Nat} {f : Nat → Nat → UInt8} (hW : 1 ≤ W ∧ W ≤ 8) (hH : 1 ≤ H ∧ H ≤ 8) (hf : ∀ y x, y < H → x < W → numL (f y x) ≠ -1) : PcOk (pcF W H f) ∧ PcR (pcF W H f) := by
  have hn : ∀ y x : Int, 0 ≤ (pcF W H f).ink y x ∧ (pcF W H f).ink y x ≤ 3 := fun y x => by
    unfold pcF; simp only
    split
    · rename_i h
      have h1 := numL_in (f y.toNat x.toNat)
      have h2 := hf y.toNat x.toNat (by omega) (by omega)
      omega
    · omega
  refine ⟨⟨⟨by show (1 : Int) ≤ W; omega, by show (W : Int) ≤ 8; omega, by show (1 : Int) ≤ H; omega, by show (H : Int) ≤ 8; omega⟩, fun y x _ _ _ _ => ⟨(hn y x).2, fun h => ?_⟩⟩, ⟨by show -128 ≤ (W : Int) ∧ (W : Int) < 128; omega, by show -128 ≤ (H : Int) ∧ (H : Int) < 128; omega, fun y x => ⟨(hn y x).1, by have := (hn y x).2; omega⟩⟩⟩
  unfold pcF at h; simp only at h
  split at h
  · rename_i h2; exact ⟨h2.2.1, h2.2.2.2⟩
  · omega
theorem pcF_ink {W H : Nat} {f : Nat → Nat → UInt8} {y x : Nat} (hy : y < H) (hx : x < W) : (pcF W H f).ink y x = numL (f y x) := by
  unfold pcF; simp only
  rw [if_pos (by omega)]; simp
/-- Two valid pictures of one text. -/
theorem rows_inj {P Q : Pc} (hP : PcOk P) (hPR : PcR P) (hQ : PcOk Q) (hQR : PcR Q) (h : pT P = pT Q) : ∀ j, j < 66 → pcC P j = pcC Q j := by
  have hs : rowsP P = rowsP Q := by
    have e : rowsP P ++ [[]] = rowsP Q ++ [[]] := by rw [← spl_pT, ← spl_pT, h]
    exact List.append_cancel_right e
  have p1 := hP.1
  have q1 := hQ.1
  have hH : P.high = Q.high := by
    have := rowsP_len P
    rw [hs, rowsP_len] at this
    omega
  have hW : P.wide = Q.wide := by
    have a := rowsP_getlen P (y := 0) (by omega)
    have b := rowsP_getlen Q (y := 0) (by omega)
    rw [hs] at a
    omega
  have hI : ∀ y x : Nat, y < 8 → x < 8 → P.ink y x = Q.ink y x := fun y x hy hx => by
    have pk := hP.2 y x (by omega) (by omega) (by omega) (by omega)
    have qk := hQ.2 y x (by omega) (by omega) (by omega) (by omega)
    have pr := hPR.ink y x
    have qr := hQR.ink y x
    by_cases hin : (x : Int) < P.wide ∧ (y : Int) < P.high
    · have a := rowsP_at P (y := y) (x := x) (by omega) (by omega)
      have b := rowsP_at Q (y := y) (x := x) (by omega) (by omega)
      rw [hs] at a
      exact ltr_inj ⟨pr.1, pk.1⟩ ⟨qr.1, qk.1⟩ (a.symm.trans b)
    · have a : ¬ 0 < P.ink y x := fun h => hin (pk.2 h)
      have b : ¬ 0 < Q.ink y x := fun h => hin (by have := qk.2 h; omega)
      omega
  intro j hj
  unfold pcC
  split
  · split
    · rw [hW]
    · rw [hH]
  · rw [hI _ _ (by omega) (by omega)]
/-- What reading gives: the picture of that text; else none. -/
def RdIs (s : List UInt8) (P : Pc) (c : Int) : Prop := (c = 0 ∧ PcOk P ∧ PcR P ∧ s = pT P) ∨ (c = 5 ∧ P = pc0 ∧ ¬ ∃ Q, PcOk Q ∧ PcR Q ∧ s = pT Q)
theorem RdIs.two {s : List UInt8} {P Q : Pc} {c d : Int} (h : RdIs s P c) (k : RdIs s Q d) : c = d ∧ ∀ j, j < 66 → pcC P j = pcC Q j := by
  rcases h with ⟨rfl, h1, h2, h3⟩ | ⟨rfl, rfl, h3⟩ <;> rcases k with ⟨rfl, k1, k2, k3⟩ | ⟨rfl, rfl, k3⟩
  · exact ⟨rfl, rows_inj h1 h2 k1 k2 (h3.symm.trans k3)⟩
  · exact absurd ⟨P, h1, h2, h3⟩ k3
  · exact absurd ⟨Q, k1, k2, k3⟩ h3
  · exact ⟨rfl, fun _ _ => rfl⟩
end Go.Proofs.YtlkcpmbpfcfeaaaDoor.V

/- Numbers' texts: the library's FormatInt at base 10 (out of the kit's shelf), and the reference's Decimal. -/
namespace Go.Proofs.YtlkcpmbpfcfeaaaDoor.V
open Go.RowKit
section
variable {P : Program} {ti : Nat → TI} {cx : Cx} {l : List (Nat × SV)} {h : List (Nat × Seg)} {n : Nat} {K : List (Nat × SV) → List (Nat × Seg) → Nat → Prop}
end
/-- The table of the powers of ten holds what it should, as long as the frame lasts. -/
def TabOk (cx : Cx) : Prop := ∀ w, Keeps cx.W cx.w0 w → Lib.TabIs Tryd.prog w "internal/strconv.uint64pow10" .u64 Lib.pow10Tab
theorem TabOk.to {cx : Cx} (hT : TabOk cx) {ρ : Rho} {h : List (Nat × Seg)} {n : Nat} {w : World} (sh : SatH cx ρ h n w) (nt n0 : Nat) : TabOk ⟨w, Noth, nt, n0⟩ := fun w' k => hT w' (sh.keeps.then k)
theorem TabOk.sub {cx : Cx} (hT : TabOk cx) (nt n0 : Nat) : TabOk ⟨cx.w0, cx.W, nt, n0⟩ := hT
section
variable (cx : Cx) (h : List (Nat × Seg)) (n : Nat)
end
end Go.Proofs.YtlkcpmbpfcfeaaaDoor.V

/- The texts of sheets: a cell's word, both codes: the walks. -/
namespace Go.Proofs.YtlkcpmbpfcfeaaaDoor.V
section
variable (cx : Cx) (h : List (Nat × Seg)) (n : Nat)
end
end Go.Proofs.YtlkcpmbpfcfeaaaDoor.V

/- Packed pictures: the program's code: the walks. -/
namespace Go.Proofs.YtlkcpmbpfcfeaaaDoor.V
/-- Some number lies in the library's variable MaxLen, as long as the frame lasts. -/
def MaxOk (cx : Cx) : Prop := ∃ m : Int, ∀ w, Keeps cx.W cx.w0 w → w.cell? ⟨0, 0, none⟩ = some (.int .i64 m)
theorem MaxOk.sub {cx : Cx} (hM : MaxOk cx) (nt n0 : Nat) : MaxOk ⟨cx.w0, cx.W, nt, n0⟩ := hM
theorem bt_S8 (L : List UInt8) (k : Nat) (h : k < L.length) : bt (S8 L) k = ((L.getD k 0).toNat : Int) := by
  unfold bt S8
  rw [Int.toNat_natCast, List.getD_eq_getElem?_getD]
  rw [List.getElem?_eq_getElem h]
  have : (⟨L.toArray⟩ : ByteArray)[k]? = some L[k] := by
    rw [getElem?_pos _ _ (by simpa [ByteArray.size] using h)]
    rfl
  rw [this]
  try rfl
section
variable (cx : Cx) (h : List (Nat × Seg)) (n : Nat)
theorem shownG_Q (i : Nat) (s : Seg) (P : Pc) (x y : Int) (hs : hget h i = some s) (hn : s.n = 66) (hc : s.c = pcC P) (hi : i < n) (hx : 0 ≤ x) (hx8 : x < 8) (hy : 0 ≤ y) (hy8 : y < 8) : CallQ Tryd.prog cx 37 [.ptr i 0, spot x y] h n (.int .u8 (P.ink y x)) := by
  obtain ⟨sn, sc, sr, so⟩ := s
  simp only at hn hc
  subst hn hc
  have hne : (n == i) = false := by simp; omega
  refine callQ_of_T (P := Tryd.prog) hti (nt := 15) (rs := [.tmp 4]) rfl rfl Tryd.call37 Tryd.func37 rfl _ (by simp only [go_sem, and_self]) (Nat.le_of_ble_eq_true rfl) _ (by first | exact trivial | (refine lt_flat rfl ?_; simp [SV.flat]; done) | simp only [go_sem]) fun hok => ?_
  simp only [go_sem, Nat.reduceLT]
  refine T_draw hti _ _ (by kernel_rfl) (by kernel_rfl) ?_
  simp only [go_sem, Nat.reduceLT, Nat.reduceLeDiff, reduceCtorEq, hne, hs, hi, hx, hx8, hy, hy8]
set_option maxRecDepth 20000 in
theorem letter_Q (i : Nat) (s : Seg) (P : Pc) (x y : Int) (hs : hget h i = some s) (hn : s.n = 66) (hc : s.c = pcC P) (hi : i < n) (hx : 0 ≤ x) (hx8 : x < 8) (hy : 0 ≤ y) (hy8 : y < 8) (hv : 0 ≤ P.ink y x ∧ P.ink y x ≤ 3) :
    CallQ Tryd.prog cx 28 [.ptr i 0, spot x y] h n (.str (S8 [ltr (P.ink y x)])) := by
  refine callQ_of_T (P := Tryd.prog) hti (nt := 10) (rs := [.tmp 4]) rfl rfl Tryd.call28 Tryd.func28 rfl _ (by simp only [go_sem, and_self]) (Nat.le_of_ble_eq_true rfl) _ (by first | exact trivial | (refine lt_flat rfl ?_; simp [SV.flat]; done) | simp only [go_sem]) fun hok => ?_
  simp only [go_sem, Nat.reduceLT]
  refine (shownG_Q _ _ _ i s P x y (by first | (simp only [go_sem, hs, hi]; done) | (simp only [go_sem, Nat.reduceBEq, Nat.reduceLT, Nat.reduceLeDiff, Nat.reduceAdd, Nat.reduceMul, Nat.reduceSub, Nat.reduceMod, Nat.reduceDiv, Nat.reduceEqDiff, Int.reduceToNat, reduceIte, reduceCtorEq, Int.reduceLE, Int.reduceLT, Int.reduceEq, Int.reduceNeg, Int.reduceAdd, Int.reduceSub, Int.reduceMul, hs, hi]; rfl)) hn hc (by omega) hx hx8 hy hy8).A ?_
  generalize P.ink y x = v at *
  rcases (by omega : v = 0 ∨ v = 1 ∨ v = 2 ∨ v = 3) with rfl | rfl | rfl | rfl
  · simp only [go_sem, Nat.reduceLT, Int.reduceLE, show bt ⟨#[46, 97, 98, 99]⟩ 0 = 46 from rfl]
    refine ⟨by decide, rfl, rune_sem hti (k := .u8) (m := 46) rfl (by simp [dok]) rfl rfl rfl ?_⟩
    rw [show Go.Utf8.encode 46 = S8 [ltr 0] from rfl]
    simp only [go_sem, Nat.reduceLT]
  · simp only [go_sem, Nat.reduceLT, Int.reduceLE, show bt ⟨#[46, 97, 98, 99]⟩ 1 = 97 from rfl]
    refine ⟨by decide, rfl, rune_sem hti (k := .u8) (m := 97) rfl (by simp [dok]) rfl rfl rfl ?_⟩
    rw [show Go.Utf8.encode 97 = S8 [ltr 1] from rfl]
    simp only [go_sem, Nat.reduceLT]
  · simp only [go_sem, Nat.reduceLT, Int.reduceLE, show bt ⟨#[46, 97, 98, 99]⟩ 2 = 98 from rfl]
    refine ⟨by decide, rfl, rune_sem hti (k := .u8) (m := 98) rfl (by simp [dok]) rfl rfl rfl ?_⟩
    rw [show Go.Utf8.encode 98 = S8 [ltr 2] from rfl]
    simp only [go_sem, Nat.reduceLT]
  · simp only [go_sem, Nat.reduceLT, Int.reduceLE, show bt ⟨#[46, 97, 98, 99]⟩ 3 = 99 from rfl]
    refine ⟨by decide, rfl, rune_sem hti (k := .u8) (m := 99) rfl (by simp [dok]) rfl rfl rfl ?_⟩
    rw [show Go.Utf8.encode 99 = S8 [ltr 3] from rfl]
    simp only [go_sem, Nat.reduceLT]
theorem textP_Q (i : Nat) (P : Pc) (W H : Nat) (hs : hget h i = some (pcS P)) (hi : i < n) (hR : PcR P) (hP : PcOk P) (hW : P.wide = W) (hH : P.high = H) :
    CallQ Tryd.prog cx 16 [.ptr i 0] h n (.str (S8 (linesK W [] (fun x y => [ltr (P.ink y x)]) H))) := by
  have h8 := hP.1
  refine callQ_of_T (P := Tryd.prog) hti (nt := 8) (rs := [.tmp 2]) rfl rfl Tryd.call16 Tryd.func16 rfl _ (by simp only [go_sem, and_self]) (Nat.le_of_ble_eq_true rfl) _ (by first | exact trivial | (refine lt_flat rfl ?_; simp [SV.flat]; done) | simp only [go_sem]) fun hok => ?_
  simp only [go_sem, Nat.reduceLT]
  refine callA_false (sheet_E _ _ _ i P hs hi _ ?_)
  simp only [go_sem, Nat.reduceLT]
  have hgi : hget ((n, shS (psh P)) :: h) i = some (pcS P) := (by first | (simp only [go_sem, hs, hi]; done) | (simp only [go_sem, Nat.reduceBEq, Nat.reduceLT, Nat.reduceLeDiff, Nat.reduceAdd, Nat.reduceMul, Nat.reduceSub, Nat.reduceMod, Nat.reduceDiv, Nat.reduceEqDiff, Int.reduceToNat, reduceIte, reduceCtorEq, Int.reduceLE, Int.reduceLT, Int.reduceEq, Int.reduceNeg, Int.reduceAdd, Int.reduceSub, Int.reduceMul, hs, hi]; rfl))
  refine (lines_Q _ _ _ n 0 (shS (psh P)) W H [] 28 1 0 (cl [.ptr i 0]) (cl []) (fun x y => [ltr (P.ink y x)]) (hget_hit _ _ _) (by omega) (by show 2 ≤ 266; omega) (by show SV.int .i8 P.wide = _; rw [hW]) (by show SV.int .i8 P.high = _; rw [hH]) (by omega) (by omega) (by omega) (by omega) (by simp) (fun x y => by simp) ⟨fun j hj => ?_, fun j hj => absurd hj (Nat.not_lt_zero j)⟩ fun x y hx hy w0 nt n0 h' n' hn' hx' => ?_).A ?_
  · have hj : j < 1 := hj
    match j with
    | 0 => show i < n + 1; omega
    | j + 1 => omega
  · exact letter_Q _ h' n' i (roS (pcS P)) P x y (hx' i (by omega) _ (ro_some hgi)) rfl rfl (by omega) (by omega) (by omega) (by omega) (by omega) ⟨(hR.ink y x).1, (hP.2 y x (by omega) (by omega) (by omega) (by omega)).1⟩
  · simp only [go_sem, Nat.reduceLT]
    done
end
end Go.Proofs.YtlkcpmbpfcfeaaaDoor.V

/- Reading texts: contracts of the library (out of the kit's shelf), bytes of a string, the reference's split. -/
namespace Go.Proofs.YtlkcpmbpfcfeaaaDoor.V
@[go_sem] theorem cvT_sbytes (P : Program) (ti : Nat → TI) (cx : Cx) (Q : List (Nat × SV) → List (Nat × Seg) → Nat → Prop) (k : List It) (l : List (Nat × SV)) (h : List (Nat × Seg)) (n : Nat) (q : Bool) (all rest : List Oper) (d : Option Nat) (e : Nat) (x : PV) (o : Oper) :
    cvT P ti cx Q k l h n q all rest d .str (.sl e) x o = semT P ti cx Q k l h n q all rest o := rfl
section
variable {P : Program} {ti : Nat → TI} {cx : Cx} {l : List (Nat × SV)} {h : List (Nat × Seg)} {n : Nat} {K : List (Nat × SV) → List (Nat × Seg) → Nat → Prop}
/-- A string's bytes, in a new row of which nothing is known but its length. -/
theorem toBytes_sem (hti : ∀ t, TyOK P t (ti t)) {o : Oper} {x : Operand} {s t e : Nat} (hop : o.op = .convert s t x) (hd : dok cx.nt o.dst) (hs : (ti s).k = .str) (ht : (ti t).k = .sl e) (he : U8 (ti e)) {b : ByteArray} (hx : ev l x = .str b)
    (hK : ∀ cap, K (put l o.dst (.sl n 0 b.size cap)) h (n + 1)) : OpSem P cx o l h n K := by
  intro ρ a w st sh hn
  have hu := (hti s).und; rw [hs] at hu
  have hv := (hti t).und; rw [ht] at hv
  have hw := (hti e).und; rw [he.k] at hw
  obtain ⟨e1, _⟩ := ev_sound st x (by rw [hx]; simp)
  rw [hx] at e1
  have hr := Lib.run_convert_string_bytes (P := P) w s t e b hu hv hw
  have hk : Keeps Noth w (Lib.bytesWorld w e b) := ⟨rfl, rfl, rfl, by rw [Lib.bytesWorld_size]; omega, fun j hj => ObjK.of_eq (Lib.bytesWorld_at_old w e b j hj)⟩
  have hρ : ∀ i, i < n → ρ i = (fun i => if i = n then (w.heap.size, 0) else ρ i) i := fun i hi => by simp only; rw [if_neg (by omega)]
  have s1 := (sh.keep hk).rho hρ
  have s2 : SatH cx (fun i => if i = n then (w.heap.size, 0) else ρ i) h (n + 1) (Lib.bytesWorld w e b) := ⟨s1.keeps, s1.seg, s1.dis, fun i t hi => ⟨Nat.lt_succ_of_lt (s1.lt i t hi).1, fun k hk => SV.lt_mono (Nat.le_succ _) _ ((s1.lt i t hi).2 k hk)⟩⟩
  refine upon_value_eq (v := den (fun i => if i = n then (w.heap.size, 0) else ρ i) (.sl n 0 b.size (grownCap w b.size 0 e))) (w' := Lib.bytesWorld w e b) ?_ _ _ ⟨_, _, _, n + 1, fun i hi => hρ i (by omega), ((st.rho hρ).mono (Nat.le_succ n)).put _ (.sl n 0 b.size (grownCap w b.size 0 e)) (Nat.lt_succ_self n) (dok_lt hd), s2, by omega, hK _⟩
  obtain ⟨d, op, ty, pos, af, g⟩ := o
  simp only at hop; subst hop
  simp [execOp, e1, den]
  rw [hr]
  rfl
end
section
variable (cx : Cx) (h : List (Nat × Seg)) (n : Nat)
theorem trim_Q (s p : List UInt8) (hs : s.length ≤ 9223372036854775807) : CallQ Tryd.prog cx 10 [.str (S8 s), .str (S8 p)] h n (.str (S8 (Lib.trimSuffix s p))) := by
  refine ⟨Tryd.call10, by simp only [go_sem, and_self], trivial, fun ρ w sh _ => ?_⟩
  have hsz : (S8 s).size = s.length := S8_size s
  refine (Tryd.strings_TrimSuffix (S8 s) (S8 p) w (by omega)).mono fun e w' he => ?_
  obtain ⟨rfl, rfl⟩ := he
  refine ⟨?_, sh⟩
  rw [S8_list, S8_list]; rfl
theorem indexByte_Q (s : List UInt8) (c : UInt8) : CallQ Tryd.prog cx 23 [.str (S8 s), .int .u8 (c.toNat : Int)] h n (.int .i64 (Lib.indexByte s c)) := by
  refine ⟨Tryd.call23, by simp only [go_sem, and_self], trivial, fun ρ w sh _ => ?_⟩
  refine (Tryd.strings_IndexByte (S8 s) (c.toNat : Int) w).mono fun e w' he => ?_
  obtain ⟨rfl, rfl⟩ := he
  refine ⟨?_, sh⟩
  rw [S8_list]
  have : ((c.toNat : Int)).toNat.toUInt8 = c := by simp
  rw [this]; rfl
theorem split_E (hM : MaxOk cx) (s : List UInt8) (c : UInt8) (hs : s.length ≤ 4294967280) (K : HK)
    (hK : K (.sl n 0 (spl c s).length (spl c s).length) ((n, ⟨(spl c s).length, strsC (spl c s), true, some (9, (spl c s).length)⟩) :: h) (n + 1)) : CallE Tryd.prog cx 9 [.str (S8 s), .str (S8 [c])] h n K := by
  obtain ⟨m, hm⟩ := hM
  refine ⟨Tryd.call9, by simp only [go_sem, and_self], fun ρ w sh _ => ?_⟩
  have hsz : (S8 s).size = s.length := S8_size s
  refine (Tryd.strings_Split (S8 s) (S8 [c]) m w (by omega) (hm w sh.keeps) (Nat.le_refl 1)).mono fun e w' he => ?_
  obtain ⟨rfl, rfl⟩ := he
  have hlen : Lib.countB (S8 s) (S8 [c]) + 1 = (spl c s).length := by
    have : Lib.countB (S8 s) (S8 [c]) = Lib.count (S8 s).data.toList [c] := rfl
    rw [this, S8_list, Lib.count_one, spl_len]
  have hL : (Lib.splitB (S8 [c]) 0 (Lib.countB (S8 s) (S8 [c])) (S8 s)).map (fun x : ByteArray => x.data.toList) = spl c s := by
    have := splitB_spl c (Lib.countB (S8 s) (S8 [c])) (S8 s) rfl
    rw [S8_list] at this
    exact this
  generalize hLL : Lib.splitB (S8 [c]) 0 (Lib.countB (S8 s) (S8 [c])) (S8 s) = LL at *
  rw [hlen]
  have hLl : LL.length = (spl c s).length := by rw [← hL, List.length_map]
  have hheap : (w.alloc (.cells (LL.map Value.string).toArray 9)).heap[w.heap.size]? = some (.cells (LL.map Value.string).toArray 9 (0, 0)) := heap_alloc_new w _
  have hg : w.grownBy (w.alloc (.cells (LL.map Value.string).toArray 9)) none := ⟨rfl, rfl, rfl, by simp, fun k hk _ => heap_alloc_old w _ hk⟩
  obtain ⟨ρ', r1, r2, r3⟩ := sh.own_step (h2 := h) hg (fun _ _ h => h) (fun z q hq => by simp) (fun b hb => by cases hb) hheap
    (fun z q hq => Nat.ne_of_lt (sh.seg z q hq).blk) sh.keeps.size (spl c s).length (strsC (spl c s)) (fun k hk => by
      have hk' : k < LL.length := by omega
      simp only [List.getElem?_toArray, List.getElem?_map, List.getElem?_eq_getElem hk', Option.map_some]
      have e : (spl c s).getD k [] = (LL[k]).data.toList := by rw [← hL, List.getD_eq_getElem?_getD, List.getElem?_map, List.getElem?_eq_getElem hk']; rfl
      show some (Value.string LL[k]) = some (Value.string (S8 ((spl c s).getD k [])))
      rw [e]; rfl) (fun _ _ => trivial)
  have hcs : (LL.map Value.string).toArray.size = (spl c s).length := by simp [hLl]
  rw [hcs] at r3
  refine ⟨ρ', .sl n 0 (spl c s).length (spl c s).length, _, n + 1, fun i hi => r1 i (by omega), Nat.le_succ n, ?_, Nat.lt_succ_self n, r3, hK⟩
  simp [den, r2]
theorem sizeStr_Q (i len cap : Nat) : CallQ Tryd.prog cx 13 [.sl i 0 len cap] h n (.int .i64 len) := by
  refine callQ_of_T (P := Tryd.prog) hti (nt := 5) (rs := [.tmp 2]) rfl rfl Tryd.call13 Tryd.func13 rfl _ (by simp only [go_sem, and_self]) (Nat.le_of_ble_eq_true rfl) _ (by first | exact trivial | (refine lt_flat rfl ?_; simp [SV.flat]; done) | simp only [go_sem]) fun hok => ?_
  simp only [go_sem, Nat.reduceLT]
  done
theorem sizeU8_Q (i len cap : Nat) : CallQ Tryd.prog cx 12 [.sl i 0 len cap] h n (.int .i64 len) := by
  refine callQ_of_T (P := Tryd.prog) hti (nt := 5) (rs := [.tmp 2]) rfl rfl Tryd.call12 Tryd.func12 rfl _ (by simp only [go_sem, and_self]) (Nat.le_of_ble_eq_true rfl) _ (by first | exact trivial | (refine lt_flat rfl ?_; simp [SV.flat]; done) | simp only [go_sem]) fun hok => ?_
  simp only [go_sem, Nat.reduceLT]
  done
end
end Go.Proofs.YtlkcpmbpfcfeaaaDoor.V

/- Reading pictures: small functions: the walks. -/
namespace Go.Proofs.YtlkcpmbpfcfeaaaDoor.V
theorem idx_abc (b : UInt8) : Lib.indexByte [46, 97, 98, 99] b = numL b := by
  unfold numL
  by_cases h0 : b = 46
  · subst h0; rfl
  by_cases h1 : b = 97
  · subst h1; rfl
  by_cases h2 : b = 98
  · subst h2; rfl
  by_cases h3 : b = 99
  · subst h3; rfl
  rw [if_neg h0, if_neg h1, if_neg h2, if_neg h3]
  simp [Lib.indexByte, Ne.symm h0, Ne.symm h1, Ne.symm h2, Ne.symm h3, h0, h1, h2, h3]
/-- A picture of which the first k cells have been filled. -/
def fillPc (W H : Nat) (f : Nat → UInt8) (k : Nat) : Pc := ⟨W, H, fun y x => if 0 ≤ x ∧ x < W ∧ 0 ≤ y ∧ y < H ∧ y.toNat * W + x.toNat < k then numL (f (y.toNat * W + x.toNat)) else 0⟩
theorem fillPc_0 (W H : Nat) (f : Nat → UInt8) : fillPc W H f 0 = ⟨W, H, fun _ _ => 0⟩ := by
  unfold fillPc; congr; funext y x; rw [if_neg (by omega)]
theorem fillPc_end (W H : Nat) (f : Nat → UInt8) : fillPc W H f (H * W) = pcF W H fun y x => f (y * W + x) := by
  unfold fillPc pcF; congr; funext y x
  by_cases h : 0 ≤ x ∧ x < W ∧ 0 ≤ y ∧ y < H
  · rw [if_pos h, if_pos ⟨h.1, h.2.1, h.2.2.1, h.2.2.2, by
      have h1 : y.toNat + 1 ≤ H := by omega
      have := Nat.mul_le_mul_right W h1
      rw [Nat.add_mul, Nat.one_mul] at this
      omega⟩]
  · rw [if_neg h, if_neg (fun e => h ⟨e.1, e.2.1, e.2.2.1, e.2.2.2.1⟩)]
theorem fillPc_step {W H k : Nat} (f : Nat → UInt8) (hW : 0 < W) (hk : k < H * W) : (fillPc W H f k).setInk ((k / W : Nat) : Int) ((k % W : Nat) : Int) (numL (f k)) = fillPc W H f (k + 1) := by
  unfold fillPc Pc.setInk
  simp only
  congr; funext y x
  have hm := Nat.mod_lt k hW
  have hd := (Nat.div_lt_iff_lt_mul hW).2 hk
  have hdm := Nat.div_add_mod k W
  rw [Nat.mul_comm] at hdm
  by_cases h : y = ((k / W : Nat) : Int) ∧ x = ((k % W : Nat) : Int)
  · obtain ⟨rfl, rfl⟩ := h
    have e : ((k / W : Nat) : Int).toNat * W + ((k % W : Nat) : Int).toNat = k := by rw [Int.toNat_natCast, Int.toNat_natCast]; exact hdm
    rw [if_pos ⟨rfl, rfl⟩, if_pos ⟨Int.natCast_nonneg _, by exact_mod_cast hm, Int.natCast_nonneg _, by exact_mod_cast hd, by rw [e]; omega⟩, e]
  · rw [if_neg h]
    by_cases h2 : 0 ≤ x ∧ x < W ∧ 0 ≤ y ∧ y < H
    · have hne : y.toNat * W + x.toNat ≠ k := fun e => by
        have h3 : k / W = y.toNat := by rw [← e, Nat.mul_comm, Nat.mul_add_div hW, Nat.div_eq_of_lt (by omega), Nat.add_zero]
        have h4 : k % W = x.toNat := by rw [← e, Nat.mul_comm, Nat.mul_add_mod, Nat.mod_eq_of_lt (by omega)]
        exact h ⟨by rw [h3]; omega, by rw [h4]; omega⟩
      by_cases h3 : y.toNat * W + x.toNat < k
      · rw [if_pos ⟨h2.1, h2.2.1, h2.2.2.1, h2.2.2.2, h3⟩, if_pos ⟨h2.1, h2.2.1, h2.2.2.1, h2.2.2.2, by omega⟩]
      · rw [if_neg (fun e => h3 e.2.2.2.2), if_neg (fun e => by omega)]
    · rw [if_neg (fun e => h2 ⟨e.1, e.2.1, e.2.2.1, e.2.2.2.1⟩), if_neg (fun e => h2 ⟨e.1, e.2.1, e.2.2.1, e.2.2.2.1⟩)]
section
variable (cx : Cx) (h : List (Nat × Seg)) (n : Nat)
theorem number7_Q (b : UInt8) : CallQ Tryd.prog cx 8 [.int .u8 (b.toNat : Int)] h n (.tup 2 (cl [.int .u8 (if numL b = -1 then 0 else numL b), .bool (decide (numL b ≠ -1))])) := by
  have key : ∀ k : Nat, k < 256 → (b.toNat = k ↔ b = UInt8.ofNat k) := fun k hk => by
    constructor
    · intro h; rw [← h]; simp
    · intro h; rw [h]; simp [Nat.mod_eq_of_lt hk]
  refine callQ_of_T (P := Tryd.prog) hti (nt := 14) (rs := [.tmp 2, .tmp 3]) rfl rfl Tryd.call8 Tryd.func8 rfl _ (by simp only [go_sem, and_self]) (Nat.le_of_ble_eq_true rfl) _ (by first | exact trivial | (refine lt_flat rfl ?_; simp [SV.flat]; done) | simp only [go_sem]) fun hok => ?_
  by_cases h0 : b = 46
  · subst h0
    simp only [go_sem, Nat.reduceLT, reduceIte, reduceCtorEq, Int.reduceNeg, show ((46 : UInt8).toNat : Int) = 46 from rfl, show numL 46 = 0 from rfl]
    try rfl
  by_cases h1 : b = 97
  · subst h1
    simp only [go_sem, Nat.reduceLT, reduceIte, reduceCtorEq, Int.reduceLE, Int.reduceLT, Int.reduceEq, Int.reduceNeg, Int.reduceAdd, Int.reduceSub, show ((97 : UInt8).toNat : Int) = 97 from rfl, show numL 97 = 1 from rfl, show IntKind.u8.wrap (97 - 97) = 0 from rfl, show IntKind.u8.wrap (0 + 1) = 1 from rfl]
    try rfl
  by_cases h2 : b = 98
  · subst h2
    simp only [go_sem, Nat.reduceLT, reduceIte, reduceCtorEq, Int.reduceLE, Int.reduceLT, Int.reduceEq, Int.reduceNeg, Int.reduceAdd, Int.reduceSub, show ((98 : UInt8).toNat : Int) = 98 from rfl, show numL 98 = 2 from rfl, show IntKind.u8.wrap (98 - 97) = 1 from rfl, show IntKind.u8.wrap (1 + 1) = 2 from rfl]
    try rfl
  by_cases h3 : b = 99
  · subst h3
    simp only [go_sem, Nat.reduceLT, reduceIte, reduceCtorEq, Int.reduceLE, Int.reduceLT, Int.reduceEq, Int.reduceNeg, Int.reduceAdd, Int.reduceSub, show ((99 : UInt8).toNat : Int) = 99 from rfl, show numL 99 = 3 from rfl, show IntKind.u8.wrap (99 - 97) = 2 from rfl, show IntKind.u8.wrap (2 + 1) = 3 from rfl]
    try rfl
  have e : numL b = -1 := by unfold numL; rw [if_neg h0, if_neg h1, if_neg h2, if_neg h3]
  have f0 : ((b.toNat : Int) = 46) = False := eq_false fun h => h0 ((key 46 (by omega)).1 (by omega))
  have f1 : ((b.toNat : Int) = 97) = False := eq_false fun h => h1 ((key 97 (by omega)).1 (by omega))
  have f2 : ((b.toNat : Int) = 98) = False := eq_false fun h => h2 ((key 98 (by omega)).1 (by omega))
  have f3 : ((b.toNat : Int) = 99) = False := eq_false fun h => h3 ((key 99 (by omega)).1 (by omega))
  simp only [go_sem, Nat.reduceLT, reduceIte, Int.reduceNeg, f0, f1, f2, f3, e]
  try rfl
end
end Go.Proofs.YtlkcpmbpfcfeaaaDoor.V

/- Reading pictures: fill: the walk. -/
namespace Go.Proofs.YtlkcpmbpfcfeaaaDoor.V
/-- How many of the first N are letters. -/
def goodN (f : Nat → UInt8) : Nat → Nat
  | 0 => 0
  | k + 1 => if goodN f k = k ∧ numL (f k) ≠ -1 then k + 1 else goodN f k
theorem goodN_le (f : Nat → UInt8) : ∀ N, goodN f N ≤ N
  | 0 => Nat.le_refl _
  | k + 1 => by have := goodN_le f k; rw [goodN]; split <;> omega
theorem goodN_lt (f : Nat → UInt8) : ∀ N k, k < goodN f N → numL (f k) ≠ -1
  | 0, k, h => by simp [goodN] at h
  | m + 1, k, h => by
    rw [goodN] at h
    split at h
    · rename_i hc
      by_cases e : k = m
      · subst e; exact hc.2
      · exact goodN_lt f m k (by omega)
    · exact goodN_lt f m k h
theorem goodN_bad (f : Nat → UInt8) : ∀ N, goodN f N < N → numL (f (goodN f N)) = -1
  | 0, h => absurd h (Nat.not_lt_zero _)
  | m + 1, h => by
    rw [goodN] at h ⊢
    split at h
    · omega
    · rename_i hc
      rw [if_neg hc]
      by_cases e : goodN f m = m
      · rw [e]
        rcases Classical.em (numL (f m) = -1) with h1 | h1
        · exact h1
        · exact absurd ⟨e, h1⟩ hc
      · have := goodN_le f m
        exact goodN_bad f m (by omega)
section
variable (cx : Cx) (h : List (Nat × Seg)) (n : Nat)
theorem fillNo_Q (i W H : Nat) (Lt : List UInt8) (hs : hget h i = some (pcS ⟨W, H, fun _ _ => 0⟩)) (hi : i < n) (hW : 1 ≤ W ∧ W ≤ 8) (hH : 1 ≤ H ∧ H ≤ 8) (hl9 : Lt.length ≤ 4294967280) (hne : Lt.length ≠ H * W) :
    CallQ Tryd.prog cx 14 [.ptr i 0, .str (S8 Lt)] h n (.bool false) := by
  have hm : H * W ≤ 8 * 8 := Nat.mul_le_mul hH.2 hW.2
  have hR : PcR ⟨W, H, fun _ _ => 0⟩ := ⟨by show -128 ≤ (W : Int) ∧ (W : Int) < 128; omega, by show -128 ≤ (H : Int) ∧ (H : Int) < 128; omega, fun _ _ => by show (0 : Int) ≤ 0 ∧ (0 : Int) < 256; omega⟩
  refine callQ_of_T (P := Tryd.prog) hti (nt := 42) (rs := [.tmp 4]) rfl rfl Tryd.call14 Tryd.func14 rfl _ (by simp only [go_sem, and_self]) (Nat.le_of_ble_eq_true rfl) _ (by first | exact trivial | (refine lt_flat rfl ?_; simp [SV.flat]; done) | simp only [go_sem]) fun hok => ?_
  simp only [go_sem, Nat.reduceLT]
  refine callA_false (sheet_E _ _ _ i _ hs (by omega) _ ?_)
  simp only [go_sem, Nat.reduceLT]
  refine callA_false (cells_E _ _ _ n 0 _ (psh ⟨W, H, fun _ _ => 0⟩) W H (hget_hit _ _ _) (by omega) (shAt_shC (psh_R hR)) rfl rfl hW.2 hH.2 _ fun cap c1 c2 => ?_)
  have hf : ((Lt.length : Int) = ((H * W : Nat) : Int)) = False := eq_false (by omega)
  generalize hNN : H * W = N at *
  simp only [go_sem, Nat.reduceLT, hf]
  done
set_option maxRecDepth 20000 in
theorem fill_E (i W H : Nat) (Lt : List UInt8) (hs : hget h i = some (pcS ⟨W, H, fun _ _ => 0⟩)) (hi : i < n) (hW : 1 ≤ W ∧ W ≤ 8) (hH : 1 ≤ H ∧ H ≤ 8) (hl : Lt.length = H * W) (K : HK)
    (hK : K (.bool (decide (goodN (fun k => Lt.getD k 0) (H * W) = H * W))) (hset h i (pcS (fillPc W H (fun k => Lt.getD k 0) (goodN (fun k => Lt.getD k 0) (H * W))))) n) :
    CallE Tryd.prog cx 14 [.ptr i 0, .str (S8 Lt)] h n K := by
  have hm : H * W ≤ 8 * 8 := Nat.mul_le_mul hH.2 hW.2
  have hR : PcR ⟨W, H, fun _ _ => 0⟩ := ⟨by show -128 ≤ (W : Int) ∧ (W : Int) < 128; omega, by show -128 ≤ (H : Int) ∧ (H : Int) < 128; omega, fun _ _ => by show (0 : Int) ≤ 0 ∧ (0 : Int) < 256; omega⟩
  refine CallE.to _ _ (by simp only [go_sem]) (fun hok => hok_set hok fun k hk => pcC_flat _ _) hK ?_
  have hgi : ∀ t, hget (hset h i t) i = some t := hget_hset_self hs
  have hstep := fun k hk => fillPc_step (W := W) (H := H) (k := k) (fun k => Lt.getD k 0) (by omega) hk
  have hlt := goodN_lt (fun k => Lt.getD k 0) (H * W)
  have hbad := goodN_bad (fun k => Lt.getD k 0) (H * W)
  have hle := goodN_le (fun k => Lt.getD k 0) (H * W)
  have hdm : ∀ q, q < H * W → q % W < 8 ∧ q / W < 8 := fun q hq => by
    have h1 := Nat.mod_lt q (show 0 < W by omega)
    have h2 := (Nat.div_lt_iff_lt_mul (show 0 < W by omega)).2 hq
    exact ⟨by omega, by omega⟩
  have hf0 := fillPc_0 W H (fun k => Lt.getD k 0)
  refine callE_of_T (P := Tryd.prog) hti (nt := 42) (rs := [.tmp 4]) rfl rfl Tryd.call14 Tryd.func14 rfl _ (by simp only [go_sem, and_self]) (Nat.le_of_ble_eq_true rfl) _ fun hok => ?_
  simp only [go_sem, Nat.reduceLT]
  refine callA_false (sheet_E _ _ _ i _ hs (by omega) _ ?_)
  simp only [go_sem, Nat.reduceLT]
  refine callA_false (cells_E _ _ _ n 0 _ (psh ⟨W, H, fun _ _ => 0⟩) W H (hget_hit _ _ _) (by omega) (shAt_shC (psh_R hR)) rfl rfl hW.2 hH.2 _ fun cap c1 c2 => ?_)
  have hbt : ∀ k, k < H * W → bt (S8 Lt) (k : Int) = ((Lt.getD k 0).toNat : Int) := fun k hk => bt_S8 _ _ (by omega)
  have hsz : (S8 Lt).size = H * W := by rw [S8_size, hl]
  have e4 : (⟨#[46, 97, 98, 99]⟩ : ByteArray) = S8 [46, 97, 98, 99] := rfl
  generalize hNN : H * W = N at *
  generalize hLS : S8 Lt = LS at *
  generalize hG : goodN (fun k => Lt.getD k 0) N = G at *
  have hf : ((N : Int) = (N : Int)) = True := eq_true rfl
  simp only [go_sem, Nat.reduceLT, hsz, hf]
  refine T_lp (ι := { j : Nat // j ≤ G })
    (fun j => ([(0, .ptr i 0), (1, .str LS), (17, .sl (n + 1) 0 N cap), (18, .int .i64 N), (19, .int .i64 j.1)],
      (n + 1, ⟨N * 2, cellC W, true, none⟩) :: hset h i (pcS (fillPc W H (fun k => Lt.getD k 0) j.1)), n + 2)) (fun j => N - j.1) ⟨0, Nat.zero_le _⟩ ?_ ?_
  · refine Imp.id (by simp) ?_ ?_
    · simp only [go_sem, Nat.reduceLT]
      omega
    · rw [hf0, hset_self hs]
      exact impH.cons0 (hget_hit _ _ _) (by simp) (SegLe.flat (Nat.le_refl _) id (.inl rfl) fun k hk => ⟨rfl, cellC_flat _ _⟩) (impH.base0 hok (by simp) (by simp only [go_sem, HExt_cons]))
  rintro ⟨q, hq⟩
  simp only [go_sem, Nat.reduceLT, Nat.reduceEqDiff, reduceIte, decide_eq_true_eq, decide_eq_false_iff_not]
  refine ⟨fun h1 => ?_, fun h1 => ?_⟩
  rotate_left
  · have e : q = N := by omega
    have eG : G = N := by omega
    subst e
    subst eG
    simp only [go_sem]
    done
  have hqm : q < N := by omega
  have r1 : (0 : Int) ≤ q ∧ (q : Int) < N := ⟨by omega, by omega⟩
  have b1 : q * 2 ≤ N * 2 - 2 := by omega
  have b2 : q * 2 + 2 ≤ N * 2 := by omega
  have b3 : 2 ≤ N * 2 := by omega
  obtain ⟨hx8, hy8⟩ := hdm q hqm
  have e0 := cellC_x W q
  have e1 := cellC_y W q
  have hb := hbt q hqm
  have hst := hstep q hqm
  generalize hyy : q / W = y at *
  generalize hxx : q % W = x at *
  have c1 : (0 : Int) ≤ (x : Int) ∧ (x : Int) < 8 := ⟨by omega, by omega⟩
  have c3 : (0 : Int) ≤ (y : Int) ∧ (y : Int) < 8 := ⟨by omega, by omega⟩
  simp only [go_sem, r1, b1, b2, b3, e0, e1, hsz, hb]
  rw [e4]
  refine (indexByte_Q _ _ _ [46, 97, 98, 99] (Lt.getD q 0)).A ?_
  rw [idx_abc]
  by_cases hqG : q = G
  · have hb1 : numL (Lt.getD q 0) = -1 := by rw [hqG]; exact hbad (by omega)
    have hd : (G = N) = False := eq_false (by omega)
    rw [hb1]
    simp only [go_sem, Nat.reduceLT, Int.reduceLT, Int.reduceNeg, hd]
    rw [hqG]
    exact HExt.rfl
  · have hn1 := hlt q (by omega)
    have hn2 := numL_in (Lt.getD q 0)
    have hnn : (numL (Lt.getD q 0) < 0) = False := eq_false (by omega)
    simp only [go_sem, Nat.reduceLT, hnn]
    have hup : upd (pcC (fillPc W H (fun k => Lt.getD k 0) q)) (2 + y * 8 + x) (.int .u8 (numL (Lt.getD q 0))) = pcC (fillPc W H (fun k => Lt.getD k 0) (q + 1)) := by
      have := pcC_setInk (fillPc W H (fun k => Lt.getD k 0) q) (y : Int) (x : Int) (numL (Lt.getD q 0)) c3.1 c3.2 c1.1 c1.2
      simp only [Int.toNat_natCast] at this
      rw [this, hst]
    have d1 : 2 + y * 8 + x ≤ 65 := by omega
    have d2 : y * 8 + x ≤ 63 := by omega
    refine T_drawT hti 11 _ _ (by kernel_rfl) (by kernel_rfl) ?_
    simp only [go_sem, Nat.reduceLT, Nat.reduceLeDiff, Nat.reduceEqDiff, reduceIte, reduceCtorEq, hgi, hi, c1, c3, d1, d2, hup, wu8 (n := numL (Lt.getD q 0)) (by omega)]
    refine ⟨⟨q + 1, by omega⟩, by show N - (q + 1) < N - q; omega, ?_⟩
    refine Imp.id (by simp) ?_ ?_
    · simp only [go_sem, Nat.reduceLT, w64 (n := (q : Int) + 1) (by omega), Int.natCast_add, Int.natCast_one]
      omega
    · exact impH.cons0 (by first | (simp only [go_sem, Nat.reduceLT]; done) | (simp only [go_sem, Nat.reduceBEq, Nat.reduceLT, Nat.reduceLeDiff, Nat.reduceAdd, Nat.reduceMul, Nat.reduceSub, Nat.reduceMod, Nat.reduceDiv, Nat.reduceEqDiff, Int.reduceToNat, reduceIte, reduceCtorEq, Int.reduceLE, Int.reduceLT, Int.reduceEq, Int.reduceNeg, Int.reduceAdd, Int.reduceSub, Int.reduceMul]; rfl)) (by simp) (SegLe.flat (Nat.le_refl _) id (.inr rfl) fun k hk => ⟨rfl, cellC_flat _ _⟩) (impH.base0 (hok_set hok fun k hk => pcC_flat _ _) (by simp) (by first | (simp only [go_sem, HExt_cons]; done) | (simp only [go_sem, Nat.reduceBEq, Nat.reduceLT, Nat.reduceLeDiff, Nat.reduceAdd, Nat.reduceMul, Nat.reduceSub, Nat.reduceMod, Nat.reduceDiv, Nat.reduceEqDiff, Int.reduceToNat, reduceIte, reduceCtorEq, Int.reduceLE, Int.reduceLT, Int.reduceEq, Int.reduceNeg, Int.reduceAdd, Int.reduceSub, Int.reduceMul, HExt_cons]; exact HExt.rfl)))
end
end Go.Proofs.YtlkcpmbpfcfeaaaDoor.V

/- Reading texts: the reference's split: the walk. -/
namespace Go.Proofs.YtlkcpmbpfcfeaaaDoor.V
theorem ext_S8b (L : List UInt8) (a b : Nat) : (S8 L).extract a b = S8 ((L.drop a).take (b - a)) := by
  apply ByteArray.ext
  apply Array.toList_inj.1
  rw [ByteArray.data_extract, Array.toList_extract]
  show L.extract a b = _
  rw [List.extract_eq_drop_take]; rfl
theorem spR_yes {c : UInt8} {s : List UInt8} {i : Nat} (h : s.getD i 0 = c) : spR c s (i + 1) = ((spR c s i).1 ++ [(s.drop (spR c s i).2).take (i - (spR c s i).2)], i + 1) := by rw [spR, if_pos h]
theorem spR_no {c : UInt8} {s : List UInt8} {i : Nat} (h : ¬ s.getD i 0 = c) : spR c s (i + 1) = spR c s i := by rw [spR, if_neg h]
section
variable (cx : Cx) (h : List (Nat × Seg)) (n : Nat)
set_option maxRecDepth 20000 in
theorem split2_E (s : List UInt8) (c : UInt8) (hs9 : s.length ≤ 2000000) (K : HK) (hK : ∀ V h' n', n ≤ n' → HExt n h h' → HOk n' h' → StrO h' n n' V (spl c s) → K V h' n') :
    CallE Tryd.prog cx 7 [.str (S8 s), .int .u8 (c.toNat : Int)] h n K := by
  have hsz : (S8 s).size = s.length := S8_size s
  have hend := spR_end c s
  refine callE_of_T (P := Tryd.prog) hti (nt := 35) (rs := [.tmp 4]) rfl rfl Tryd.call7 Tryd.func7 rfl _ (by simp only [go_sem, and_self]) (Nat.le_of_ble_eq_true rfl) _ fun hok => ?_
  simp only [go_sem, Nat.reduceLT]
  generalize zrow _ = Z
  have ok1 : HOk (n + 1) ((n, ⟨0, Z, true, some (9, 0)⟩) :: h) := fun i t hi => by
    simp only [hget] at hi
    split at hi
    · rename_i e; cases hi
      exact ⟨by omega, fun k hk => absurd hk (Nat.not_lt_zero k)⟩
    · exact ⟨by have := (hok i t hi).1; omega, fun k hk => SV.lt_mono (by omega) _ ((hok i t hi).2 k hk)⟩
  have X1 : HExt n h ((n, ⟨0, Z, true, some (9, 0)⟩) :: h) := fun z hz t ht => by simp only [hget]; rw [if_neg (by omega)]; exact ht
  have S1 : StrO ((n, ⟨0, Z, true, some (9, 0)⟩) :: h) n (n + 1) (.sl n 0 0 0) [] := ⟨n, 0, _, rfl, Nat.le_refl _, by omega, hget_hit _ _ _, rfl, rfl, rfl, Nat.le_refl _, Nat.zero_le _, fun k hk => absurd hk (Nat.not_lt_zero k)⟩
  generalize ((n, (⟨0, Z, true, some (9, 0)⟩ : Seg)) :: h) = h1 at *
  refine T_lp (ι := { q : Nat × List (Nat × Seg) × Nat × SV // q.1 ≤ s.length ∧ n + 1 ≤ q.2.2.1 ∧ HOk q.2.2.1 q.2.1 ∧ HExt n h q.2.1 ∧ StrO q.2.1 n q.2.2.1 q.2.2.2 (spR c s q.1).1 })
    (fun q => ([(0, .str (S8 s)), (1, .int .u8 (c.toNat : Int)), (5, q.1.2.2.2), (6, .int .i64 (((spR c s q.1.1).2 : Nat) : Int)), (7, .int .i64 q.1.1)], q.1.2.1, q.1.2.2.1)) (fun q => s.length - q.1.1) ⟨(0, h1, n + 1, .sl n 0 0 0), Nat.zero_le _, Nat.le_refl _, ok1, X1, S1⟩ ?_ ?_
  · refine Imp.id (by show n ≤ n + 1; omega) ?_ (impH.base0 ok1 (Nat.le_refl _) HExt.rfl)
    simp only [go_sem, Nat.reduceLT]
    exact ⟨by omega, rfl⟩
  rintro ⟨⟨q, hq, nq, V⟩, hqL, hnq, okq, xq, Sq⟩
  simp only at hqL hnq okq xq Sq
  obtain ⟨jv, capV, ⟨sn, sc, sr, so⟩, rfl, v1, v2, v3, v4, v5, v6, v7, v8, v9⟩ := Sq
  simp only at v4 v5 v6 v9
  subst v4 v5 v6
  have hle := spR_le c s q
  have hyes := @spR_yes c s q
  have hno := @spR_no c s q
  have nv3 : nq ≠ jv := by omega
  simp only [go_sem, Nat.reduceLT, Nat.reduceLeDiff, hsz, decide_eq_true_eq, decide_eq_false_iff_not]
  generalize hD : (spR c s q).1 = D at *
  generalize hB : (spR c s q).2 = b at *
  refine ⟨fun h1 => ?_, fun h1 => ?_⟩
  · have hqm : q < s.length := by omega
    have hb := bt_S8 s q hqm
    have r1 : (0 : Int) ≤ q ∧ (q : Int) < s.length := ⟨by omega, by omega⟩
    have r2 : (0 : Int) ≤ b ∧ (b : Int) ≤ q ∧ (q : Int) ≤ s.length := ⟨by omega, by omega, by omega⟩
    have wq := w64 (n := (q : Int) + 1) (by omega)
    by_cases he : s.getD q 0 = c
    · have hs1 := hyes he
      have heI : (((s.getD q 0).toNat : Int) = (c.toNat : Int)) = True := eq_true (by rw [he])
      simp only [go_sem, Nat.reduceLT, Nat.reduceLeDiff, hsz, hb, r1, r2, heI, v3, v2, nv3, wq, ext_S8b]
      refine ⟨⟨⟨v7, v8, by omega⟩, fun cap' m1 m2 => ?_⟩, fun hz => absurd trivial hz⟩
      generalize hC : upd (zrow _) 0 (SV.str (S8 (List.take (q - b) (List.drop b s)))) = C
      have hC0 : C 0 = .str (S8 (List.take (q - b) (List.drop b s))) := by rw [← hC]; rfl
      obtain ⟨okN, exN, spN⟩ := strApp1 (n := n) (h := h) (nq := nq) (jv := jv) (A := D) (a := List.take (q - b) (List.drop b s)) (sc := sc) (c1 := C) (w := some (9, 1)) (by omega) okq xq v1 hC0 v9 m1 m2
      refine ⟨⟨(q + 1, _, nq + 2, .sl (nq + 1) 0 (D.length + 1) cap'), by show q + 1 ≤ s.length; omega, by show n + 1 ≤ nq + 2; omega, okN, exN, by show StrO _ _ _ _ (spR c s (q + 1)).1; rw [hs1]; exact spN⟩, by show s.length - (q + 1) < s.length - q; omega, ?_⟩
      refine Imp.id (by show n ≤ nq + 2; omega) ?_ (impH.base0 okN (Nat.le_refl _) HExt.rfl)
      simp only [go_sem, Nat.reduceLT, hs1, Int.natCast_add, Int.natCast_one]
      try omega
    · have hs1 := hno he
      have heI : (((s.getD q 0).toNat : Int) = (c.toNat : Int)) = False := eq_false fun e => he (UInt8.toNat_inj.1 (by omega))
      simp only [go_sem, hsz, hb, r1, heI, wq]
      refine ⟨⟨(q + 1, hq, nq, .sl jv 0 D.length capV), by show q + 1 ≤ s.length; omega, hnq, okq, xq, by show StrO _ _ _ _ (spR c s (q + 1)).1; rw [hs1, hD]; exact ⟨jv, capV, _, rfl, v1, v2, v3, rfl, rfl, rfl, v7, v8, v9⟩⟩, by show s.length - (q + 1) < s.length - q; omega, ?_⟩
      refine Imp.id (by show n ≤ nq; omega) ?_ (impH.base0 okq (Nat.le_refl _) HExt.rfl)
      simp only [go_sem, Nat.reduceLT, hs1, hB, Int.natCast_add, Int.natCast_one]
      exact v2
  · have e : q = s.length := by omega
    subst e
    have r2 : (0 : Int) ≤ b ∧ (b : Int) ≤ s.length := ⟨by omega, by omega⟩
    simp only [go_sem, Nat.reduceLT, Nat.reduceLeDiff, hsz, r2, v3, v2, nv3, ext_S8b]
    refine ⟨Int.le_refl _, ⟨v7, v8, by omega⟩, fun cap' m1 m2 => ?_⟩
    have htk : List.take (s.length - b) (List.drop b s) = List.drop b s := List.take_of_length_le (by rw [List.length_drop]; exact Nat.le_refl _)
    rw [htk]
    generalize hC : upd (zrow _) 0 (SV.str (S8 (List.drop b s))) = C
    have hC0 : C 0 = .str (S8 (List.drop b s)) := by rw [← hC]; rfl
    obtain ⟨okN, exN, spN⟩ := strApp1 (n := n) (h := h) (nq := nq) (jv := jv) (A := D) (a := List.drop b s) (sc := sc) (c1 := C) (w := some (9, 1)) (by omega) okq xq v1 hC0 v9 m1 m2
    exact hK _ _ _ (by omega) exN okN (by rw [hend, hD, hB]; exact spN)
end
end Go.Proofs.YtlkcpmbpfcfeaaaDoor.V

/- Reading pictures: the program's code: the walk. -/
namespace Go.Proofs.YtlkcpmbpfcfeaaaDoor.V
theorem flat_rows (W : Nat) (g : Nat → Nat → UInt8) : ∀ H : Nat, ((List.range H).map fun y => (List.range W).map (g y)).flatten = (List.range (H * W)).map fun k => g (k / W) (k % W)
  | 0 => by simp
  | H + 1 => by
    rw [List.range_succ, List.map_append, List.flatten_append, flat_rows W g H, Nat.add_mul, Nat.one_mul, List.range_add, List.map_append, List.map_map]
    simp only [List.map_cons, List.map_nil, List.flatten_cons, List.flatten_nil, List.append_nil]
    congr 1
    refine List.map_congr_left fun x hx => ?_
    have hx : x < W := List.mem_range.1 hx
    show g H x = g ((H * W + x) / W) ((H * W + x) % W)
    rw [show (H * W + x) / W = H by rw [Nat.mul_comm, Nat.mul_add_div (by omega), Nat.div_eq_of_lt hx, Nat.add_zero], show (H * W + x) % W = x by rw [Nat.mul_comm, Nat.mul_add_mod, Nat.mod_eq_of_lt hx]]
theorem flatP (P : Pc) : (rowsP P).flatten = (List.range (P.high.toNat * P.wide.toNat)).map fun k => ltr (P.ink ((k / P.wide.toNat : Nat) : Int) ((k % P.wide.toNat : Nat) : Int)) := by
  unfold rowsP
  exact flat_rows P.wide.toNat (fun y x => ltr (P.ink y x)) P.high.toNat
/-- What a picture's text is taken apart into. -/
theorem of_pT {P : Pc} {s : List UInt8} (hP : PcOk P) (hR : PcR P) (hs : s = pT P) :
    ∃ W H : Nat, (1 ≤ W ∧ W ≤ 8) ∧ (1 ≤ H ∧ H ≤ 8) ∧ (spl 10 (Lib.trimSuffix s [10])).length = H ∧ ((spl 10 (Lib.trimSuffix s [10])).getD 0 []).length = W ∧
      (Lib.join (spl 10 (Lib.trimSuffix s [10])) []).length = H * W ∧ (∀ k, k < H * W → numL ((Lib.join (spl 10 (Lib.trimSuffix s [10])) []).getD k 0) ≠ -1) ∧
      pT (pcF W H fun y x => (Lib.join (spl 10 (Lib.trimSuffix s [10])) []).getD (y * W + x) 0) = s := by
  have h8 := hP.1
  subst hs
  rw [trim_pT P h8.2.2.1, join_flatJ, flatP]
  have hrl := rowsP_len P
  have hr0 := rowsP_getlen P (y := 0) (by omega)
  obtain ⟨W, hW⟩ : ∃ W : Nat, P.wide.toNat = W := ⟨_, rfl⟩
  obtain ⟨H, hH⟩ : ∃ H : Nat, P.high.toNat = H := ⟨_, rfl⟩
  rw [hW] at hr0 ⊢
  rw [hH] at hrl ⊢
  have hg : ∀ k, k < H * W → ((List.range (H * W)).map fun k => ltr (P.ink ((k / W : Nat) : Int) ((k % W : Nat) : Int))).getD k 0 = ltr (P.ink ((k / W : Nat) : Int) ((k % W : Nat) : Int)) := fun k hk => by simp [List.getD_eq_getElem?_getD, hk]
  have hin : ∀ y x : Nat, y < H → x < W → 0 ≤ P.ink y x ∧ P.ink y x ≤ 3 := fun y x hy hx => ⟨(hR.ink _ _).1, (hP.2 (y : Int) (x : Int) (by omega) (by omega) (by omega) (by omega)).1⟩
  refine ⟨W, H, by omega, by omega, hrl, hr0, by simp, fun k hk => ?_, ?_⟩
  · rw [hg k hk]
    have h1 := Nat.mod_lt k (show 0 < W by omega)
    have h2 := (Nat.div_lt_iff_lt_mul (show 0 < W by omega)).2 hk
    have := hin (k / W) (k % W) h2 h1
    rw [numL_ltr this]
    omega
  · rw [pT_rows, pT_rows]
    congr 1
    unfold rowsP
    rw [hW, hH]
    show (List.range (H : Int).toNat).map _ = _
    rw [Int.toNat_natCast]
    refine List.map_congr_left fun y hy => ?_
    have hy : y < H := List.mem_range.1 hy
    show (List.range (W : Int).toNat).map _ = _
    rw [Int.toNat_natCast]
    refine List.map_congr_left fun x hx => ?_
    have hx : x < W := List.mem_range.1 hx
    have hlt : y * W + x < H * W := by
      have := Nat.mul_le_mul_right W (show y + 1 ≤ H by omega)
      rw [Nat.add_mul, Nat.one_mul] at this
      omega
    rw [pcF_ink hy hx, hg _ hlt, show (y * W + x) / W = y by rw [Nat.mul_comm, Nat.mul_add_div (by omega), Nat.div_eq_of_lt hx, Nat.add_zero], show (y * W + x) % W = x by rw [Nat.mul_comm, Nat.mul_add_mod, Nat.mod_eq_of_lt hx], numL_ltr (hin y x hy hx)]
theorem rp_lt (P : Pc) (c : Int) (n : Nat) : (SV.tup 2 (cl [.agg 66 (pcC P), .int .i64 c])).lt n := fun j hj => by
  have hj : j < 2 := hj
  match j with
  | 0 => exact pcC_lt P n
  | 1 => trivial
  | j + 2 => omega
theorem rp_den {P Q : Pc} (c : Int) (hQ : ∀ j, j < 66 → pcC Q j = pcC P j) (ρ : Rho) : den ρ (.tup 2 (cl [.agg 66 (pcC Q), .int .i64 c])) = den ρ (.tup 2 (cl [.agg 66 (pcC P), .int .i64 c])) := by
  simp only [den]; congr 1
  exact arr_congr fun j hj => by
    match j with
    | 0 => exact den_aggF hQ ρ
    | 1 => rfl
    | j + 2 => omega
section
variable (cx : Cx) (h : List (Nat × Seg)) (n : Nat)
theorem blank_Q (a b : Int) (ha : 0 ≤ a ∧ a < 9223372036854775808) (hb : 0 ≤ b ∧ b < 9223372036854775808) : CallQ Tryd.prog cx 11 [.int .i64 a, .int .i64 b] h n
    (if 1 ≤ a ∧ a ≤ 8 ∧ 1 ≤ b ∧ b ≤ 8 then .tup 2 (cl [.agg 66 (pcC ⟨a, b, fun _ _ => 0⟩), .int .i64 0]) else .tup 2 (cl [.agg 66 (pcC pc0), .int .i64 2])) := by
  by_cases h1 : 1 ≤ a ∧ a ≤ 8
  · by_cases h2 : 1 ≤ b ∧ b ≤ 8
    · rw [if_pos ⟨h1.1, h1.2, h2.1, h2.2⟩]
      refine callQ_of_T (P := Tryd.prog) hti (nt := 20) (rs := [.cell 4 26, .tmp 5]) rfl rfl Tryd.call11 Tryd.func11 rfl _ (by simp only [go_sem, and_self]) (Nat.le_of_ble_eq_true rfl) _ (by first | exact trivial | (refine lt_flat rfl ?_; simp [SV.flat]; done) | simp only [go_sem]) fun hok => ?_
      simp only [go_sem, Nat.reduceLT, Nat.reduceEqDiff, reduceIte]
      refine (within_Q _ _ _ a 1 8).A ?_
      simp only [go_sem, Nat.reduceLT, h1]
      refine (within_Q _ _ _ b 1 8).A ?_
      simp only [go_sem, Nat.reduceLT, Nat.reduceLeDiff, reduceIte, h1, h2, w8 (n := a) (by omega), w8 (n := b) (by omega), HExt_cons]
      try rfl
    · rw [if_neg (fun e => h2 ⟨e.2.2.1, e.2.2.2⟩)]
      refine callQ_of_T (P := Tryd.prog) hti (nt := 20) (rs := [.cell 4 26, .tmp 5]) rfl rfl Tryd.call11 Tryd.func11 rfl _ (by simp only [go_sem, and_self]) (Nat.le_of_ble_eq_true rfl) _ (by first | exact trivial | (refine lt_flat rfl ?_; simp [SV.flat]; done) | simp only [go_sem]) fun hok => ?_
      simp only [go_sem, Nat.reduceLT, Nat.reduceEqDiff, reduceIte]
      refine (within_Q _ _ _ a 1 8).A ?_
      simp only [go_sem, Nat.reduceLT, h1]
      refine (within_Q _ _ _ b 1 8).A ?_
      simp only [go_sem, Nat.reduceLT, reduceIte, h1, h2, HExt_cons]
      try rfl
  · rw [if_neg (fun e => h1 ⟨e.1, e.2.1⟩)]
    refine callQ_of_T (P := Tryd.prog) hti (nt := 20) (rs := [.cell 4 26, .tmp 5]) rfl rfl Tryd.call11 Tryd.func11 rfl _ (by simp only [go_sem, and_self]) (Nat.le_of_ble_eq_true rfl) _ (by first | exact trivial | (refine lt_flat rfl ?_; simp [SV.flat]; done) | simp only [go_sem]) fun hok => ?_
    simp only [go_sem, Nat.reduceLT, Nat.reduceEqDiff, reduceIte]
    refine (within_Q _ _ _ a 1 8).A ?_
    simp only [go_sem, Nat.reduceLT, reduceIte, h1, HExt_cons]
    try rfl
set_option maxRecDepth 20000 in
theorem readPic_Q (hM : MaxOk cx) (s : List UInt8) (P : Pc) (c : Int) (hI : RdIs s P c) (hs9 : s.length ≤ 1048576) :
    CallQ Tryd.prog cx 5 [.str (S8 s)] h n (.tup 2 (cl [.agg 66 (pcC P), .int .i64 c])) := by
  have e10 : (⟨#[10]⟩ : ByteArray) = S8 [10] := rfl
  have e0 : (⟨#[]⟩ : ByteArray) = S8 [] := rfl
  have hT9 : (Lib.trimSuffix s [10]).length ≤ s.length := by
    unfold Lib.trimSuffix
    split
    · rw [List.length_take]; omega
    · exact Nat.le_refl _
  have hof : c = 0 → PcOk P ∧ PcR P ∧ s = pT P := fun h0 => by
    rcases hI with ⟨_, h1, h2, h3⟩ | ⟨rfl, _⟩
    · exact ⟨h1, h2, h3⟩
    · exact absurd h0 (by decide)
  have hno : ¬ (∃ Q, PcOk Q ∧ PcR Q ∧ s = pT Q) → P = pc0 ∧ c = 5 := fun hq => by
    rcases hI with ⟨_, h1, h2, h3⟩ | ⟨rfl, rfl, _⟩
    · exact absurd ⟨P, h1, h2, h3⟩ hq
    · exact ⟨rfl, rfl⟩
  refine CallE.toQ (rp_lt P c n) fun K hK => ?_
  refine CallE.imp0 (K := fun r h' n' => n ≤ n' ∧ HExt n h h' ∧ ∃ Q : Pc, (∀ j, j < 66 → pcC Q j = pcC P j) ∧ r = .tup 2 (cl [.agg 66 (pcC Q), .int .i64 c])) ?_ ?_
  rotate_left
  · rintro hok r h' n' ⟨g0, hx, Q, hQ, rfl⟩
    exact ⟨.tup 2 (cl [.agg 66 (pcC Q), .int .i64 c]), h, n, Nat.le_refl n, by simp only [ren_nil], rp_lt Q c n, impH.base0 hok (Nat.le_refl n) hx, hK _ (rp_den c hQ)⟩
  refine callE_of_T (P := Tryd.prog) hti (nt := 36) (rs := [.cell 2 26, .tmp 3]) rfl rfl Tryd.call5 Tryd.func5 rfl _ (by simp only [go_sem, and_self]) (Nat.le_of_ble_eq_true rfl) _ fun hok => ?_
  simp only [go_sem, Nat.reduceLT, Nat.reduceEqDiff, reduceIte]
  rw [e10]
  refine (trim_Q _ _ _ s [10] (by omega)).A ?_
  generalize hT : Lib.trimSuffix s [10] = T0 at *
  simp only [go_sem, Nat.reduceLT, e10]
  refine callA_false (split_E _ _ _ (hM.sub _ _) T0 10 (by omega) _ ?_)
  have hLn := List.length_pos_iff.2 (spl_ne 10 T0)
  have hL9 := spl_len 10 T0
  have hcnt : T0.count 10 ≤ T0.length := List.count_le_length
  have hl9 : ((spl 10 T0).getD 0 []).length ≤ T0.length := by
    rw [List.getD_eq_getElem?_getD, List.getElem?_eq_getElem hLn]
    exact spl_lenle (List.getElem_mem _)
  have hjl : (Lib.join (spl 10 T0) []).length ≤ T0.length := by
    have h1 := spl_join 10 T0
    have : ∀ L : List (List UInt8), (Lib.join L []).length ≤ (Lib.join L [10]).length := fun L => by
      cases L with
      | nil => simp [Lib.join_nil]
      | cons a L =>
        rw [Lib.join_cons, Lib.join_cons, List.length_append, List.length_append]
        have : ∀ L : List (List UInt8), (Lib.joinTail [] L).length ≤ (Lib.joinTail [10] L).length := fun L => by
          induction L with
          | nil => simp [Lib.joinTail]
          | cons b L ih =>
            have e1 : Lib.joinTail [] (b :: L) = b ++ Lib.joinTail [] L := by simp [Lib.joinTail]
            have e2 : Lib.joinTail [10] (b :: L) = [10] ++ b ++ Lib.joinTail [10] L := by simp [Lib.joinTail]
            rw [e1, e2]; simp; omega
        have := this L
        omega
    have := this (spl 10 T0)
    rw [h1] at this
    exact this
  have hopf : s = s := rfl
  have hofT : ∀ P, PcOk P → PcR P → s = pT P → _ := fun P h1 h2 h3 => of_pT (s := s) h1 h2 h3
  rw [hT] at hofT
  generalize hLL : spl 10 T0 = L at *
  have hc0 : strsC L 0 = .str (S8 (L.getD 0 [])) := rfl
  have b1 : (0 : Int) < L.length := by omega
  have b2 : 1 ≤ L.length := by omega
  simp only [go_sem, Nat.reduceLT, Int.reduceToNat, Int.reduceLE, b1, b2, hc0, hLn]
  refine ⟨rfl, toBytes_sem hti (e := 5) rfl (by simp [dok]) rfl rfl u8_U8 rfl fun cap => ?_⟩
  rw [S8_size]
  generalize hWW : (L.getD 0 []).length = W0 at *
  simp only [go_sem, Nat.reduceLT]
  refine (sizeU8_Q _ _ _ (n + 2) W0 cap).A ?_
  simp only [go_sem, Nat.reduceLT]
  refine (sizeStr_Q _ _ _ (n + 1) L.length L.length).A ?_
  simp only [go_sem, Nat.reduceLT]
  refine (blank_Q _ _ _ (W0 : Int) (L.length : Int) (by omega) (by omega)).A ?_
  by_cases hsz : 1 ≤ W0 ∧ W0 ≤ 8 ∧ 1 ≤ L.length ∧ L.length ≤ 8
  rotate_left
  · rw [if_neg (by omega)]
    have hbad : ¬ ∃ Q, PcOk Q ∧ PcR Q ∧ s = pT Q := by
      rintro ⟨Q, q1, q2, q3⟩
      obtain ⟨W, H, w1, w2, w3, w4, _⟩ := hofT Q q1 q2 q3
      omega
    obtain ⟨rfl, rfl⟩ := hno hbad
    simp only [go_sem, Nat.reduceLT, Nat.reduceEqDiff, reduceIte, Int.reduceEq]
    exact ⟨pc0, fun _ _ => rfl, rfl⟩
  rw [if_pos (by omega)]
  simp only [go_sem, Nat.reduceLT, Nat.reduceEqDiff, reduceIte, e0]
  refine (join_Q _ _ _ (n + 1) L.length L [] _ (by first | (simp only [go_sem, Nat.reduceLT]; done) | (simp only [go_sem, Nat.reduceLT]; rfl)) (by omega) (Nat.le_refl _) (fun k hk => rfl) (Nat.le_refl _) (by omega) (by omega)).A ?_
  generalize hLt : Lib.join L [] = Lt at *
  obtain ⟨H0, hH0⟩ : ∃ H0, L.length = H0 := ⟨_, rfl⟩
  rw [hH0] at hofT hsz ⊢
  by_cases hlen : Lt.length = H0 * W0
  rotate_left
  · have hbad : ¬ ∃ Q, PcOk Q ∧ PcR Q ∧ s = pT Q := by
      rintro ⟨Q, q1, q2, q3⟩
      obtain ⟨W, H, w1, w2, w3, w4, w5, _⟩ := hofT Q q1 q2 q3
      rw [w5, ← w3, ← w4] at hlen
      exact hlen rfl
    obtain ⟨rfl, rfl⟩ := hno hbad
    simp only [go_sem, Nat.reduceLT]
    refine (fillNo_Q _ _ _ (n + 3) W0 H0 Lt (hget_hit _ _ _) (by omega) (by omega) (by omega) (by omega) hlen).A ?_
    simp only [go_sem, Nat.reduceLT, reduceIte, e0]
    exact ⟨pc0, fun _ _ => rfl, rfl⟩
  simp only [go_sem, Nat.reduceLT]
  refine callA_false (fill_E _ _ _ (n + 3) W0 H0 Lt (hget_hit _ _ _) (by omega) (by omega) (by omega) hlen _ ?_)
  have hlt := goodN_lt (fun k => Lt.getD k 0) (H0 * W0)
  have hgb := goodN_bad (fun k => Lt.getD k 0) (H0 * W0)
  have hgl := goodN_le (fun k => Lt.getD k 0) (H0 * W0)
  by_cases hG : goodN (fun k => Lt.getD k 0) (H0 * W0) = H0 * W0
  rotate_left
  · have hbad : ¬ ∃ Q, PcOk Q ∧ PcR Q ∧ s = pT Q := by
      rintro ⟨Q, q1, q2, q3⟩
      obtain ⟨W, H, w1, w2, w3, w4, w5, w6, _⟩ := hofT Q q1 q2 q3
      rw [← w3, ← w4] at w6
      exact w6 _ (by omega) (hgb (by omega))
    obtain ⟨rfl, rfl⟩ := hno hbad
    have hGf : (goodN (fun k => Lt.getD k 0) (H0 * W0) = H0 * W0) = False := eq_false hG
    simp only [go_sem, Nat.reduceLT, reduceIte, hGf]
    exact ⟨pc0, fun _ _ => rfl, rfl⟩
  rw [hG, fillPc_end]
  have hQ := pcF_ok (W := W0) (H := H0) (f := fun y x => Lt.getD (y * W0 + x) 0) (by omega) (by omega) (fun y x hy hx => hlt _ (by
    rw [hG]
    have := Nat.mul_le_mul_right W0 (show y + 1 ≤ H0 by omega)
    rw [Nat.add_mul, Nat.one_mul] at this
    omega))
  have hQW : (pcF W0 H0 fun y x => Lt.getD (y * W0 + x) 0).wide = W0 := rfl
  have hQH : (pcF W0 H0 fun y x => Lt.getD (y * W0 + x) 0).high = H0 := rfl
  generalize hQQ : (pcF W0 H0 fun y x => Lt.getD (y * W0 + x) 0) = Q at *
  have hpt : linesK W0 [] (fun x y : Nat => [ltr (Q.ink y x)]) H0 = pT Q := by unfold pT; rw [hQW, hQH]; rfl
  have hgq : hget (hset ((n + 3, (⟨66, pcC ⟨(W0 : Int), (H0 : Int), fun _ _ => 0⟩, true, none⟩ : Seg)) :: (n + 1, ⟨H0, strsC L, true, some (9, H0)⟩) :: (n, ⟨66, pcC pc0, true, none⟩) :: h) (n + 3) (pcS Q)) (n + 3) = some (pcS Q) := hget_hset_self (hget_hit _ _ _) _
  simp only [go_sem, Nat.reduceLT]
  refine (textP_Q _ _ _ (n + 3) Q W0 H0 (by first | (simp only [go_sem]; done) | (simp only [go_sem, Nat.reduceBEq, Nat.reduceLT, Nat.reduceLeDiff, Nat.reduceAdd, Nat.reduceMul, Nat.reduceSub, Nat.reduceMod, Nat.reduceDiv, Nat.reduceEqDiff, Int.reduceToNat, reduceIte, reduceCtorEq, Int.reduceLE, Int.reduceLT, Int.reduceEq, Int.reduceNeg, Int.reduceAdd, Int.reduceSub, Int.reduceMul]; rfl)) (by omega) hQ.2 hQ.1 hQW hQH).A ?_
  rw [hpt]
  by_cases hfin : pT Q = s
  · have hs2 : (S8 (pT Q) = S8 s) = True := eq_true (by rw [hfin])
    have hc0 : c = 0 ∧ ∀ j, j < 66 → pcC Q j = pcC P j := by
      have hI2 : RdIs s Q 0 := .inl ⟨rfl, hQ.1, hQ.2, hfin.symm⟩
      exact ⟨(hI2.two hI).1.symm, (hI2.two hI).2⟩
    obtain ⟨rfl, hpq⟩ := hc0
    simp only [go_sem, Nat.reduceLT, reduceIte, hs2]
    exact ⟨Q, hpq, rfl⟩
  · have hs2 : (S8 (pT Q) = S8 s) = False := eq_false fun e => hfin (by have := congrArg (fun x : ByteArray => x.data.toList) e; simpa [S8_list] using this)
    have hbad : ¬ ∃ Q, PcOk Q ∧ PcR Q ∧ s = pT Q := by
      rintro ⟨Q', q1, q2, q3⟩
      obtain ⟨W, H, w1, w2, w3, w4, w5, w6, w7⟩ := hofT Q' q1 q2 q3
      rw [← w3, ← w4, hQQ] at w7
      exact hfin w7
    obtain ⟨rfl, rfl⟩ := hno hbad
    simp only [go_sem, Nat.reduceLT, reduceIte, hs2]
    exact ⟨pc0, fun _ _ => rfl, rfl⟩
end
end Go.Proofs.YtlkcpmbpfcfeaaaDoor.V

/- Reading pictures: the reference's code, the law: the walks. -/
namespace Go.Proofs.YtlkcpmbpfcfeaaaDoor.V
theorem getD_app {α : Type} {L : List α} {M : List α} {d : α} {k : Nat} (h : k < L.length) : (L ++ M).getD k d = L.getD k d := by
  rw [List.getD_eq_getElem?_getD, List.getD_eq_getElem?_getD, List.getElem?_append_left h]
/-- What a picture's text is split into. -/
theorem of_pT2 {P : Pc} {s : List UInt8} (hP : PcOk P) (hR : PcR P) (hs : s = pT P) :
    ∃ W H : Nat, (1 ≤ W ∧ W ≤ 8) ∧ (1 ≤ H ∧ H ≤ 8) ∧ (spl 10 s).length = H + 1 ∧ (spl 10 s).getD H [] = [] ∧
      ∀ y, y < H → ((spl 10 s).getD y []).length = W ∧ ∀ x, x < W → numL (((spl 10 s).getD y []).getD x 0) ≠ -1 := by
  have h8 := hP.1
  subst hs
  rw [spl_pT]
  have hrl := rowsP_len P
  refine ⟨P.wide.toNat, P.high.toNat, by omega, by omega, by rw [List.length_append, hrl]; rfl, ?_, fun y hy => ⟨?_, fun x hx => ?_⟩⟩
  · rw [List.getD_eq_getElem?_getD, List.getElem?_append_right (by omega), hrl]; simp
  · rw [getD_app (by omega), rowsP_getlen P hy]
  · rw [getD_app (by omega), rowsP_at P hy hx]
    have := (hP.2 (y : Int) (x : Int) (by omega) (by omega) (by omega) (by omega)).1
    have h2 := (hR.ink (y : Int) (x : Int)).1
    rw [numL_ltr ⟨h2, this⟩]
    omega
/-- The text of a picture that was read from pieces. -/
theorem pT_of {s : List UInt8} {W H : Nat} (hW : 1 ≤ W) (hL : (spl 10 s).length = H + 1) (h0 : (spl 10 s).getD H [] = []) (hr : ∀ y, y < H → ((spl 10 s).getD y []).length = W ∧ ∀ x, x < W → numL (((spl 10 s).getD y []).getD x 0) ≠ -1) :
    pT (pcF W H fun y x => ((spl 10 s).getD ((y * W + x) / W) []).getD ((y * W + x) % W) 0) = s := by
  have hj := spl_join 10 s
  generalize spl 10 s = L at *
  have hsplit : L = L.take H ++ [[]] := by
    have e := (List.take_append_drop H L).symm
    have e2 : L.drop H = [[]] := by
      rw [List.drop_eq_getElem_cons (by omega), List.drop_eq_nil_of_le (by omega)]
      rw [List.getD_eq_getElem?_getD, List.getElem?_eq_getElem (by omega)] at h0
      simp only [Option.getD_some] at h0
      rw [h0]
    rw [e2] at e
    exact e
  have hrows : rowsP (pcF W H fun y x => (L.getD ((y * W + x) / W) []).getD ((y * W + x) % W) 0) = L.take H := by
    apply List.ext_getElem
    · rw [rowsP_len, List.length_take]; show (H : Int).toNat = _; omega
    · intro y h1 h2
      have hy : y < H := by rw [List.length_take] at h2; omega
      have hyL : y < L.length := by omega
      have e1 : (rowsP (pcF W H fun y x => (L.getD ((y * W + x) / W) []).getD ((y * W + x) % W) 0))[y] = (rowsP (pcF W H fun y x => (L.getD ((y * W + x) / W) []).getD ((y * W + x) % W) 0)).getD y [] := by rw [List.getD_eq_getElem?_getD, List.getElem?_eq_getElem h1]; rfl
      rw [e1, rowsP_get _ (by show y < (H : Int).toNat; omega), List.getElem_take]
      show (List.range (W : Int).toNat).map _ = _
      rw [Int.toNat_natCast]
      have hrow := hr y hy
      rw [List.getD_eq_getElem?_getD, List.getElem?_eq_getElem hyL] at hrow
      simp only [Option.getD_some] at hrow
      obtain ⟨hl, hv⟩ := hrow
      apply List.ext_getElem
      · rw [List.length_map, List.length_range, hl]
      · intro x h3 h4
        have hx : x < W := by rw [List.length_map, List.length_range] at h3; exact h3
        rw [List.getElem_map, List.getElem_range, pcF_ink hy hx]
        rw [show (y * W + x) / W = y by rw [Nat.mul_comm, Nat.mul_add_div (by omega), Nat.div_eq_of_lt hx, Nat.add_zero], show (y * W + x) % W = x by rw [Nat.mul_comm, Nat.mul_add_mod, Nat.mod_eq_of_lt hx]]
        have := hv x hx
        have e3 : L.getD y [] = L[y] := by rw [List.getD_eq_getElem?_getD, List.getElem?_eq_getElem hyL]; rfl
        rw [e3, ltr_numL this, List.getD_eq_getElem?_getD, List.getElem?_eq_getElem h4]
        rfl
  rw [pT_rows, hrows, nlL_join, ← hsplit, hj]
theorem HOk.consPc {h : List (Nat × Seg)} {n : Nat} (hok : HOk n h) (P : Pc) : HOk (n + 1) ((n, pcS P) :: h) := fun i t hi => by
  simp only [hget] at hi
  split at hi
  · rename_i e; cases hi
    exact ⟨by omega, fun k hk => (pcC_flat P k).below _⟩
  · exact ⟨by have := (hok i t hi).1; omega, fun k hk => SV.lt_mono (by omega) _ ((hok i t hi).2 k hk)⟩
section
variable (cx : Cx) (h : List (Nat × Seg)) (n : Nat)
set_option maxRecDepth 20000 in
theorem readPic2_Q (s : List UInt8) (P : Pc) (c : Int) (hI : RdIs s P c) (hs9 : s.length ≤ 1048576) :
    CallQ Tryd.prog cx 4 [.str (S8 s)] h n (.tup 2 (cl [.agg 66 (pcC P), .int .i64 c])) := by
  have e0 : (⟨#[]⟩ : ByteArray) = S8 [] := rfl
  have e10 : (10 : Int) = (((10 : UInt8).toNat : Nat) : Int) := rfl
  have hno : ¬ (∃ Q, PcOk Q ∧ PcR Q ∧ s = pT Q) → P = pc0 ∧ c = 5 := fun hq => by
    rcases hI with ⟨_, h1, h2, h3⟩ | ⟨rfl, rfl, _⟩
    · exact absurd ⟨P, h1, h2, h3⟩ hq
    · exact ⟨rfl, rfl⟩
  refine CallE.toQ (rp_lt P c n) fun K hK => ?_
  refine CallE.imp0 (K := fun r h' n' => n ≤ n' ∧ HExt n h h' ∧ ∃ Q : Pc, (∀ j, j < 66 → pcC Q j = pcC P j) ∧ r = .tup 2 (cl [.agg 66 (pcC Q), .int .i64 c])) ?_ ?_
  rotate_left
  · rintro hok r h' n' ⟨g0, hx, Q, hQ, rfl⟩
    exact ⟨.tup 2 (cl [.agg 66 (pcC Q), .int .i64 c]), h, n, Nat.le_refl n, by simp only [ren_nil], rp_lt Q c n, impH.base0 hok (Nat.le_refl n) hx, hK _ (rp_den c hQ)⟩
  refine callE_of_T (P := Tryd.prog) hti (nt := 97) (rs := [.cell 2 26, .tmp 3]) rfl rfl Tryd.call4 Tryd.func4 rfl _ (by simp only [go_sem, and_self]) (Nat.le_of_ble_eq_true rfl) _ fun hok => ?_
  simp only [go_sem, Nat.reduceLT, Nat.reduceEqDiff, reduceIte]
  rw [e10]
  refine callA_false (split2_E _ _ _ s 10 (by omega) _ ?_)
  intro V h1 n1 hn1 hx1 ok1 SV1
  have hback := fun W H hW => pT_of (s := s) (W := W) (H := H) hW
  have hofT : ∀ P, PcOk P → PcR P → s = pT P → _ := fun P h1 h2 h3 => of_pT2 (s := s) h1 h2 h3
  have hLn := List.length_pos_iff.2 (spl_ne 10 s)
  have hL9 := spl_len 10 s
  have hcnt : s.count 10 ≤ s.length := List.count_le_length
  have hl9 : ∀ y, y < (spl 10 s).length → ((spl 10 s).getD y []).length ≤ s.length := fun y hy => by
    rw [List.getD_eq_getElem?_getD, List.getElem?_eq_getElem hy]
    exact spl_lenle (List.getElem_mem _)
  generalize hLL : spl 10 s = L at *
  obtain ⟨jv, capV, ⟨sn, sc, sr, so⟩, rfl, v1, v2, v3, v4, v5, v6, v7, v8, v9⟩ := SV1
  simp only at v4 v5 v6 v9
  subst v4 v5 v6
  have hxn : HExt n h h1 := HExt.tr (m' := n + 1) (by simp only [go_sem, HExt_cons]) hx1 (by omega)
  have g2 : hget h1 n = some ⟨66, pcC pc0, true, none⟩ := hx1 n (by omega) _ (by simp only [go_sem])
  have hn2 : n < n1 := by omega
  have hset2 : ∀ t, HExt n h (hset h1 n t) := fun t z hz u hu => by rw [hget_hset, if_neg (by omega)]; exact hxn z hz u hu
  have hset3 : ∀ t u, HExt n h ((n1, t) :: hset h1 n u) := fun t u z hz w hw => by simp only [hget]; rw [if_neg (by omega)]; exact hset2 u z hz w hw
  obtain ⟨H0, hH0⟩ : ∃ H0, L.length = H0 + 1 := ⟨L.length - 1, by omega⟩
  have hcH : sc H0 = .str (S8 (L.getD H0 [])) := v9 H0 (by omega)
  have hc0 : sc 0 = .str (S8 (L.getD 0 [])) := v9 0 (by omega)
  have hS8 : ∀ a b : List UInt8, (S8 a = S8 b) = (a = b) := fun a b => propext ⟨fun e => by have := congrArg (fun x : ByteArray => x.data.toList) e; simpa [S8_list] using this, fun e => by rw [e]⟩
  have wH : IntKind.i64.wrap ((L.length : Int) - 1) = (H0 : Int) := by rw [show (L.length : Int) - 1 = H0 by omega]; exact w64 (by omega)
  have b1 : (0 : Int) ≤ H0 ∧ (H0 : Int) < L.length := ⟨by omega, by omega⟩
  have b2 : H0 ≤ L.length - 1 := by omega
  have b3 : 1 ≤ L.length := by omega
  have b4 : H0 + 1 ≤ L.length := by omega
  have b5 : (0 : Int) < L.length := by omega
  have b6 : H0 < L.length := by omega
  obtain ⟨W0, hW0⟩ : ∃ W0, (L.getD 0 []).length = W0 := ⟨_, rfl⟩
  have l0 := hl9 0 (by omega)
  by_cases hgood : L.getD H0 [] = [] ∧ 1 ≤ H0 ∧ H0 ≤ 8 ∧ 1 ≤ W0 ∧ W0 ≤ 8
  rotate_left
  · have hbad : ¬ ∃ Q, PcOk Q ∧ PcR Q ∧ s = pT Q := by
      rintro ⟨Q, q1, q2, q3⟩
      obtain ⟨W, H, w1, w2, w3, w4, w5⟩ := hofT Q q1 q2 q3
      have eH : H = H0 := by omega
      subst eH
      have := (w5 0 (by omega)).1
      exact hgood ⟨w4, by omega, by omega, by omega, by omega⟩
    obtain ⟨rfl, rfl⟩ := hno hbad
    by_cases ha : L.getD H0 [] = []
    rotate_left
    · have haF : (L.getD H0 [] = []) = False := eq_false ha
      simp only [go_sem, Nat.reduceLT, reduceIte, wH, v3, v2, b1, b2, b3, b4, b5, b6, hcH, hc0, e0, hS8, haF, g2, hn2]
      exact ⟨by omega, hset2 _, pc0, fun _ _ => rfl, rfl⟩
    have haT : (L.getD H0 [] = []) = True := eq_true ha
    by_cases hb : H0 < 1
    · have hbT : ((H0 : Int) < 1) = True := eq_true (by omega)
      simp only [go_sem, Nat.reduceLT, reduceIte, wH, v3, v2, b1, b2, b3, b4, b5, b6, hcH, hc0, e0, hS8, haT, hbT, g2, hn2]
      exact ⟨by omega, hset2 _, pc0, fun _ _ => rfl, rfl⟩
    have hbF : ((H0 : Int) < 1) = False := eq_false (by omega)
    by_cases hc : 8 < H0
    · have hcT : (8 < (H0 : Int)) = True := eq_true (by omega)
      simp only [go_sem, Nat.reduceLT, reduceIte, wH, v3, v2, b1, b2, b3, b4, b5, b6, hcH, hc0, e0, hS8, haT, hbF, hcT, g2, hn2]
      exact ⟨by omega, hset2 _, pc0, fun _ _ => rfl, rfl⟩
    have hcF : (8 < (H0 : Int)) = False := eq_false (by omega)
    by_cases hd : W0 < 1
    · have hdT : ((W0 : Int) < 1) = True := eq_true (by omega)
      simp only [go_sem, Nat.reduceLT, Int.reduceToNat, reduceIte, Int.reduceLE, wH, v3, v2, b1, b2, b3, b4, b5, b6, hcH, hc0, hW0, e0, hS8, haT, hbF, hcF, hdT, g2, hn2]
      exact ⟨by omega, hset2 _, pc0, fun _ _ => rfl, rfl⟩
    have hdF : ((W0 : Int) < 1) = False := eq_false (by omega)
    have heT : (8 < (W0 : Int)) = True := eq_true (by
      have : ¬ (1 ≤ H0 ∧ H0 ≤ 8 ∧ 1 ≤ W0 ∧ W0 ≤ 8) := fun e => hgood ⟨ha, e⟩
      omega)
    simp only [go_sem, Nat.reduceLT, Int.reduceToNat, reduceIte, Int.reduceLE, wH, v3, v2, b1, b2, b3, b4, b5, b6, hcH, hc0, hW0, e0, hS8, haT, hbF, hcF, hdF, heT, g2, hn2]
    exact ⟨by omega, hset2 _, pc0, fun _ _ => rfl, rfl⟩
  obtain ⟨ha, hb, hc, hd, he⟩ := hgood
  have haT : (L.getD H0 [] = []) = True := eq_true ha
  have hbF : ((H0 : Int) < 1) = False := eq_false (by omega)
  have hcF : (8 < (H0 : Int)) = False := eq_false (by omega)
  have hdF : ((W0 : Int) < 1) = False := eq_false (by omega)
  have heF : (8 < (W0 : Int)) = False := eq_false (by omega)
  simp only [go_sem, Nat.reduceLT, Nat.reduceLeDiff, Nat.reduceEqDiff, Int.reduceToNat, reduceIte, Int.reduceLE, wH, v3, v2, b1, b2, b3, b4, b5, b6, hcH, hc0, hW0, e0, hS8, haT, hbF, hcF, hdF, heF, g2, hn2, w8 (n := (W0 : Int)) (by omega), w8 (n := (H0 : Int)) (by omega)]
  have hf0 : (⟨(W0 : Int), (H0 : Int), pc0.ink⟩ : Pc) = fillPc W0 H0 (fun k => (L.getD (k / W0) []).getD (k % W0) 0) 0 := by rw [fillPc_0]; rfl
  have hfe := fillPc_end W0 H0 fun k => (L.getD (k / W0) []).getD (k % W0) 0
  have hstep := fun k hk => fillPc_step (W := W0) (H := H0) (k := k) (fun k => (L.getD (k / W0) []).getD (k % W0) 0) (by omega) hk
  rw [hf0]
  generalize hFF : fillPc W0 H0 (fun k => (L.getD (k / W0) []).getD (k % W0) 0) = FF at *
  refine T_lp (ι := { q : Nat // q ≤ H0 ∧ ∀ y, y < q → (L.getD y []).length = W0 ∧ ∀ x, x < W0 → numL ((L.getD y []).getD x 0) ≠ -1 })
    (fun q => ([(0, .str (S8 s)), (2, .ptr n 0), (4, .sl jv 0 L.length capV), (5, .int .i64 H0), (6, .ptr n1 0), (7, .int .i64 q.1)],
      (n1, pcS (FF (q.1 * W0))) :: h1, n1 + 1)) (fun q => H0 - q.1) ⟨0, Nat.zero_le _, fun y hy => absurd hy (Nat.not_lt_zero y)⟩ ?_ ?_
  · refine Imp.id (by show n ≤ n1 + 1; omega) ?_ ?_
    · simp only [go_sem, Nat.reduceLT]
      exact ⟨by omega, by omega⟩
    · rw [Nat.zero_mul]
      exact impH.base0 (ok1.consPc _) (Nat.le_refl _) HExt.rfl
  rintro ⟨y, hyH, hrows⟩
  simp only [go_sem, Nat.reduceLT, Int.reduceNeg, decide_eq_true_eq, decide_eq_false_iff_not]
  refine ⟨fun h2 => ?_, fun h2 => ?_⟩
  rotate_left
  · have ey : y = H0 := by omega
    subst ey
    have hpt := hback W0 y (by omega) hH0 ha hrows
    have hQ := pcF_ok (W := W0) (H := y) (f := fun y x => (L.getD ((y * W0 + x) / W0) []).getD ((y * W0 + x) % W0) 0) (by omega) (by omega) (fun y x hy hx => by
      rw [show (y * W0 + x) / W0 = y by rw [Nat.mul_comm, Nat.mul_add_div (by omega), Nat.div_eq_of_lt hx, Nat.add_zero], show (y * W0 + x) % W0 = x by rw [Nat.mul_comm, Nat.mul_add_mod, Nat.mod_eq_of_lt hx]]
      exact (hrows y hy).2 x hx)
    have hI2 : RdIs s (FF (y * W0)) 0 := .inl ⟨rfl, by rw [hfe]; exact hQ.1, by rw [hfe]; exact hQ.2, by rw [hfe]; exact hpt.symm⟩
    obtain ⟨rfl, hpq⟩ := hI2.two hI
    simp only [go_sem, Nat.reduceLT, reduceIte, g2, hn2]
    exact ⟨by omega, hset3 _ _, FF (y * W0), hpq, rfl⟩
  have hy8 : y < 8 := by omega
  have hcy : sc y = .str (S8 (L.getD y [])) := v9 y (by omega)
  have ly := hl9 y (by omega)
  have k1 : (0 : Int) ≤ y ∧ (y : Int) < L.length := ⟨by omega, by omega⟩
  have k2 : y ≤ L.length - 1 := by omega
  have k4 : y + 1 ≤ L.length := by omega
  have k6 : y < L.length := by omega
  obtain ⟨Wy, hWy⟩ : ∃ Wy, (L.getD y []).length = Wy := ⟨_, rfl⟩
  by_cases hlen : Wy = W0
  rotate_left
  · have hbad : ¬ ∃ Q, PcOk Q ∧ PcR Q ∧ s = pT Q := by
      rintro ⟨Q, q1, q2, q3⟩
      obtain ⟨W, H, w1, w2, w3, w4, w5⟩ := hofT Q q1 q2 q3
      have eH : H = H0 := by omega
      subst eH
      have a1 := (w5 0 (by omega)).1
      have a2 := (w5 y (by omega)).1
      omega
    obtain ⟨rfl, rfl⟩ := hno hbad
    have hlF : ((Wy : Int) = (W0 : Int)) = False := eq_false (by omega)
    refine T_drawG hti 10 [] (.b 0 0 (.b 0 1 (.b 0 2 (.b 0 3 (.b 0 4 (.b 0 5 (.b 0 6 (.b 0 7 (.b 0 8 (.b 0 9 (.f) .o) .o) .o) .o) .o) .o) .o) .o) .o) .o) _ _ (by kernel_rfl) (by kernel_rfl) ?_
    simp only [go_sem, Nat.reduceLT, Int.reduceToNat, reduceIte, Int.reduceLE, Int.reduceNeg, v3, v2, b3, b5, k1, k2, k4, k6, hcy, hc0, hWy, hW0, hlF, g2, hn2]
    exact ⟨by omega, hset3 _ _, pc0, fun _ _ => rfl, rfl⟩
  subst hlen
  have hlT : ((Wy : Int) = (Wy : Int)) = True := eq_true rfl
  refine T_drawG hti 10 [] (.b 0 0 (.b 0 1 (.b 0 2 (.b 0 3 (.b 0 4 (.b 0 5 (.b 0 6 (.b 0 7 (.b 0 8 (.b 0 9 (.f) .o) .o) .o) .o) .o) .o) .o) .o) .o) .o) _ _ (by kernel_rfl) (by kernel_rfl) ?_
  simp only [go_sem, Nat.reduceLT, Int.reduceToNat, Int.reduceLE, Int.reduceNeg, v3, v2, b3, b5, k1, k2, k4, k6, hcy, hc0, hWy, hW0, hlT, g2, hn2]
  refine T_lp (ι := { q : Nat // q ≤ Wy ∧ ∀ x, x < q → numL ((L.getD y []).getD x 0) ≠ -1 })
    (fun q => ([(0, .str (S8 s)), (2, .ptr n 0), (4, .sl jv 0 L.length capV), (5, .int .i64 H0), (6, .ptr n1 0), (7, .int .i64 y), (8, .int .i64 q.1)],
      (n1, pcS (FF (y * Wy + q.1))) :: h1, n1 + 1)) (fun q => Wy - q.1) ⟨0, Nat.zero_le _, fun y hy => absurd hy (Nat.not_lt_zero y)⟩ ?_ ?_
  · refine Imp.id (by show n ≤ n1 + 1; omega) ?_ ?_
    · simp only [go_sem, Nat.reduceLT]
      exact ⟨by omega, by omega⟩
    · rw [Nat.add_zero]
      exact impH.base0 (ok1.consPc _) (Nat.le_refl _) HExt.rfl
  rintro ⟨x, hxW, hcols⟩
  simp only [go_sem, Nat.reduceLT, Int.reduceNeg, v3, v2, k1, k2, k4, k6, b3, hcy, hWy, decide_eq_true_eq, decide_eq_false_iff_not]
  refine ⟨fun h3 => ?_, fun h3 => ?_⟩
  rotate_left
  · have ex : x = Wy := by omega
    subst ex
    refine ⟨⟨y + 1, by omega, fun y' hy' => ?_⟩, by show H0 - (y + 1) < H0 - y; omega, ?_⟩
    · by_cases e : y' = y
      · subst e; exact ⟨hWy, hcols⟩
      · exact hrows y' (by omega)
    · refine Imp.id (by show n ≤ n1 + 1; omega) ?_ ?_
      · simp only [go_sem, Nat.reduceLT, w64 (n := (y : Int) + 1) (by omega), Int.natCast_add, Int.natCast_one]
        exact ⟨by omega, by omega⟩
      · rw [show (y + 1) * x = y * x + x by rw [Nat.add_mul, Nat.one_mul]]
        exact impH.base0 (ok1.consPc _) (Nat.le_refl _) HExt.rfl
  have hxm : x < Wy := by omega
  have hx8 : x < 8 := by omega
  have hb := bt_S8 (L.getD y []) x (by omega)
  have r1 : (0 : Int) ≤ x ∧ (x : Int) < Wy := ⟨by omega, by omega⟩
  simp only [go_sem, Int.reduceNeg, v3, v2, k1, k2, k4, k6, b3, hcy, hWy, hb, r1]
  refine (number7_Q _ _ _ ((L.getD y []).getD x 0)).A ?_
  by_cases hnum : numL ((L.getD y []).getD x 0) = -1
  · have hbad : ¬ ∃ Q, PcOk Q ∧ PcR Q ∧ s = pT Q := by
      rintro ⟨Q, q1, q2, q3⟩
      obtain ⟨W, H, w1, w2, w3, w4, w5⟩ := hofT Q q1 q2 q3
      have eH : H = H0 := by omega
      subst eH
      have a2 := (w5 y (by omega)).1
      exact (w5 y (by omega)).2 x (by omega) hnum
    obtain ⟨rfl, rfl⟩ := hno hbad
    rw [hnum]
    have hd0 : decide ((-1 : Int) ≠ -1) = false := rfl
    rw [hd0]
    simp only [go_sem, Nat.reduceLT, reduceIte, Int.reduceNeg, g2, hn2]
    exact ⟨by omega, hset3 _ _, pc0, fun _ _ => rfl, rfl⟩
  · have hn3 := numL_in ((L.getD y []).getD x 0)
    have hst := hstep (y * Wy + x) (by
      have := Nat.mul_le_mul_right Wy (show y + 1 ≤ H0 by omega)
      rw [Nat.add_mul, Nat.one_mul] at this
      omega)
    simp only [show (y * Wy + x) / Wy = y by rw [Nat.mul_comm, Nat.mul_add_div (by omega), Nat.div_eq_of_lt hxm, Nat.add_zero], show (y * Wy + x) % Wy = x by rw [Nat.mul_comm, Nat.mul_add_mod, Nat.mod_eq_of_lt hxm]] at hst
    have c1 : (0 : Int) ≤ (x : Int) ∧ (x : Int) < 8 := ⟨by omega, by omega⟩
    have c3 : (0 : Int) ≤ (y : Int) ∧ (y : Int) < 8 := ⟨by omega, by omega⟩
    have hup : upd (pcC (FF (y * Wy + x))) (2 + y * 8 + x) (.int .u8 (numL ((L.getD y []).getD x 0))) = pcC (FF (y * Wy + (x + 1))) := by
      have := pcC_setInk (FF (y * Wy + x)) (y : Int) (x : Int) (numL ((L.getD y []).getD x 0)) c3.1 c3.2 c1.1 c1.2
      simp only [Int.toNat_natCast] at this
      rw [this, hst, Nat.add_assoc]
    have d1 : 2 + y * 8 + x ≤ 65 := by omega
    have d2 : y * 8 + x ≤ 63 := by omega
    have hnF : (numL ((L.getD y []).getD x 0) = -1) = False := eq_false hnum
    simp only [go_sem, Nat.reduceLT, Nat.reduceLeDiff, Nat.reduceEqDiff, reduceCtorEq, Int.reduceNeg, hnF, c1, c3, d1, d2, hup, if_false, ne_eq, not_false_eq_true, decide_true]
    refine ⟨⟨x + 1, by omega, fun x' hx' => ?_⟩, by show Wy - (x + 1) < Wy - x; omega, ?_⟩
    · by_cases e : x' = x
      · subst e; exact hnum
      · exact hcols x' (by omega)
    · refine Imp.id (by show n ≤ n1 + 1; omega) ?_ (impH.base0 (ok1.consPc _) (Nat.le_refl _) HExt.rfl)
      simp only [go_sem, Nat.reduceLT, w64 (n := (x : Int) + 1) (by omega), Int.natCast_add, Int.natCast_one]
      exact ⟨by omega, by omega⟩
theorem lawReadPic_Q (hTM : True ∧ MaxOk cx) (b : ByteArray) (hb : b.size ≤ 9223372036854775807) : CallQ Tryd.prog cx 3 [.str b] h n (.bool true) := by
  obtain ⟨_, hM⟩ := hTM
  obtain ⟨s, rfl⟩ : ∃ s, b = S8 s := ⟨b.data.toList, by unfold S8; simp⟩
  have hsz : (S8 s).size = s.length := S8_size s
  refine callQ_of_T (P := Tryd.prog) hti (nt := 29) (rs := [.tmp 2]) rfl rfl Tryd.call3 Tryd.func3 rfl _ (by simp only [go_sem, and_self]) (Nat.le_of_ble_eq_true rfl) _ (by first | exact trivial | (refine lt_flat rfl ?_; simp [SV.flat]; done) | simp only [go_sem]) fun hok => ?_
  by_cases hl : 1048576 < s.length
  · have hlT : (1048576 < (s.length : Int)) = True := eq_true (by omega)
    simp only [go_sem, Nat.reduceLT, hsz, hlT]
    done
  have hlF : (1048576 < (s.length : Int)) = False := eq_false (by omega)
  obtain ⟨P, c, hI⟩ : ∃ P c, RdIs s P c := by
    rcases Classical.em (∃ Q, PcOk Q ∧ PcR Q ∧ s = pT Q) with ⟨Q, h1, h2, h3⟩ | hq
    · exact ⟨Q, 0, .inl ⟨rfl, h1, h2, h3⟩⟩
    · exact ⟨pc0, 5, .inr ⟨rfl, rfl, hq⟩⟩
  simp only [go_sem, Nat.reduceLT, hsz, hlF]
  refine (readPic2_Q _ _ _ s P c hI (by omega)).A ?_
  simp only [go_sem, Nat.reduceLT, Nat.reduceEqDiff, reduceIte]
  refine (readPic_Q _ _ _ (hM.sub _ _) s P c hI (by omega)).A ?_
  simp only [go_sem, Nat.reduceLT, Nat.reduceEqDiff, reduceIte]
  refine (eqPicture_Q _ _ _ P).A ?_
  simp only [go_sem, Nat.reduceLT]
  done
end
end Go.Proofs.YtlkcpmbpfcfeaaaDoor.V

/- A row at laid tables whose contract may use the world's shape; some number lies in MaxLen. -/
namespace Go.Proofs.YtlkcpmbpfcfeaaaDoor.V
open Go.ChangeShapes Go.WideShapes Go.ChangeAt Go.WideElems Go.RowKit
theorem maxOk_of {W : World} (h : W.ShapedOpen Tryd.prog) : MaxOk (cx0 W) := by
  obtain ⟨m, hm⟩ := cell_of_shapedOpen_int (t := 3) (zero := #[.int .i64 0]) (k := .i64) h (g := 0) (of_decide_eq_true (by kernel_rfl)) (by kernel_rfl) rfl (by kernel_rfl) (by kernel_rfl) (by kernel_rfl)
  refine ⟨m, fun w hk => ?_⟩
  have hb : 0 < W.heap.size := by
    rcases Nat.lt_or_ge 0 W.heap.size with h | h
    · exact h
    · simp [World.cell?, Array.getElem?_eq_none h] at hm
  simp only [World.cell?] at hm ⊢
  rw [show w.heap[0]? = W.heap[0]? from hk.noth hb]
  exact hm
/-- The wrap of a law at laid tables, the world's shape kept for the contract. -/
theorem handed_shaped_and {H : Type} {enc : TypeId × Value → H} {a : Assume} {C : Checked} {os : Os} {f : FuncId} {fn : Func} {s : ChangeSpec} {conds : List PathCond} {apart fresh handsOn again : Bool} {X : World → Array Value → Prop}
    (hX : ∀ (w w' : World) (args : Array Value), w.heap = w'.heap → X w args → X w' args)
    (own : ownKnob C.prog.godebug = none) (started : os.Started) (noInit : C.prog.inits.idxOf? f = none) (hfn : C.prog.funcs[f]? = some fn)
    (witness : ∃ (w : World) (tape : Tape) (i : Input), w.os = os ∧ (w.forCall tape i).Shaped C.prog ∧ i.vars = [] ∧ Input.okWide C.prog (w.forCall tape i) .any w.heap.size f i ∧
      ((s.pre enc C.prog fn conds apart (w.forCall tape i).memory i.args ∧ X (w.forCall tape i).memory i.args) ∧ sizedMet enc C.prog fn (OpenSpec.ofChange s) apart (w.forCall tape i).memory i.args) ∧ a.holds C.prog (lone (Frame.enter C.prog f i.args .normal) [] (w.forCall tape i)))
    (contract : ∀ (W : World) (base : Nat) (args : Array Value) (ds gs : List (DataW H)) (before : List MemPlace),
      (∀ (j : Nat) t v, fn.params[j]? = some t → args[j]? = some v → Value.okWide C.prog W .any base t v) →
      DataW.Whole enc C.prog fn.params.toList s.vars apart W args.toList ds gs before → X W args → W.ShapedOpen C.prog →
      Calls C.prog f args W fun e W' => ∃ v, e = .returned v ∧ s.post enc C.prog fn apart fresh handsOn again W args v W') :
    ReturnsInHanded a C os f .any (fun w args => (s.pre enc C.prog fn conds apart w args ∧ X w args) ∧ sizedMet enc C.prog fn (OpenSpec.ofChange s) apart w args) (s.post enc C.prog fn apart fresh handsOn again) := by
  refine returnsInHanded_of_calls own started noInit witness ?_
  intro w tape i _ hsh _ hok hpre _
  obtain ⟨_, _, _, fn', hfn', _, _, _, _, hval⟩ := hok
  have e : fn' = fn := Option.some.inj (hfn'.symm.trans hfn)
  subst e
  obtain ⟨⟨⟨ds, gs, before, hw, _⟩, hx⟩, _⟩ := hpre
  refine (contract (w.forCall tape i) w.heap.size i.args ds gs before hval (DataW.Whole.of_heap (w' := w.forCall tape i) (by rfl) hw) (hX _ _ _ (by rfl) hx) hsh).mono fun e W' ⟨v, he, hp⟩ => ?_
  subst he
  exact ChangeSpec.post_blind hp
end Go.Proofs.YtlkcpmbpfcfeaaaDoor.V
