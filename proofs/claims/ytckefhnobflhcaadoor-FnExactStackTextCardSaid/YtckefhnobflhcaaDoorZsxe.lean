/- Part 5 of the texts that this proof stands on: a symbolic walk over the program, what its functions and the reference's do, plain laws. -/
import Derived.Test.YtckefhnobflhcaaDoorZsxd
import Derived.Test.YtckefhnobflhcaaDoorV20
import Derived.Test.YtckefhnobflhcaaDoorSh
import Derived.Test.YtckefhnobflhcaaDoorTi
import Derived.Test.YtckefhnobflhcaaDoorZsxa
import Derived.Laws.IdiomStrings
import Derived.Lib.SmallJoins
import Derived.Test.YtckefhnobflhcaaDoorZsxb
import Derived.Test.YtckefhnobflhcaaDoorZsxc
import Derived.Test.YtckefhnobflhcaaDoorRows
import Derived.Test.YtckefhnobflhcaaDoorV14
import Derived.ProofKit
import Derived.LaidMore
import Derived.OpenShut
import Derived.Stop.Joined
import Derived.Stop.LaidErr
set_option linter.all false

/- strings.Join and strings.Builder: contracts (out of the kit's shelf), and a quiet call walked in a frame of its own. -/
namespace Go.Proofs.YtckefhnobflhcaaDoor.V
/-- A string, by its bytes. -/
def S8 (b : List UInt8) : ByteArray := ⟨b.toArray⟩
@[go_sem] theorem S8_add (a b : List UInt8) : S8 a ++ S8 b = S8 (a ++ b) := by
  apply ByteArray.ext
  simp [S8]
@[go_sem] theorem S8_size (a : List UInt8) : (S8 a).size = a.length := by simp [S8, ByteArray.size]
theorem S8_list (a : List UInt8) : (S8 a).data.toList = a := by simp [S8]
/-- A memory that may only be read, of which no row is one's own. -/
def roS (s : Seg) : Seg := ⟨s.n, s.c, false, none⟩
def ro (h : List (Nat × Seg)) : List (Nat × Seg) := h.map fun p => (p.1, roS p.2)
theorem hget_ro (h : List (Nat × Seg)) (i : Nat) : hget (ro h) i = (hget h i).map roS := by
  induction h with
  | nil => rfl
  | cons p h ih =>
    obtain ⟨k, s⟩ := p
    show (if k = i then some (roS s) else hget (ro h) i) = _
    simp only [hget]
    by_cases e : k = i
    · rw [if_pos e, if_pos e]; rfl
    · rw [if_neg e, if_neg e]; exact ih
theorem ro_some {h : List (Nat × Seg)} {i : Nat} {s : Seg} (hs : hget h i = some s) : hget (ro h) i = some (roS s) := by rw [hget_ro, hs]; rfl
/-- A quiet call may be walked in a frame of its own. -/
theorem callQ_fresh {P : Program} {cx : Cx} {f : Nat} {args : List SV} {h : List (Nat × Seg)} {n : Nat} {r : SV} (hrl : r.lt n)
    (hc : ∀ w0, CallE P ⟨w0, Noth, 0, n⟩ f args (ro h) n fun v _ _ => v = r) : CallQ P cx f args h n r := by
  have h0 := hc (⟨#[], fun _ => fun _ => 0, 0, default, default⟩ : World)
  refine ⟨h0.1, h0.2.1, hrl, fun ρ w sh hargs => ?_⟩
  have sub : ∀ i t, hget (ro h) i = some t → ∃ s, hget h i = some s ∧ t = roS s := fun i t ht => by
    rw [hget_ro] at ht
    cases hs : hget h i with
    | none => rw [hs] at ht; cases ht
    | some s => rw [hs] at ht; cases ht; exact ⟨s, rfl, rfl⟩
  have sh' : SatH ⟨w, Noth, 0, n⟩ ρ (ro h) n w := by
    refine ⟨Keeps.refl _ _, fun i t ht => ?_, fun i j x y hij hx hy hw => ?_, fun i t ht => ?_⟩
    · obtain ⟨s, hs, rfl⟩ := sub i t ht
      have := sh.seg i s hs
      exact ⟨this.blk, this.cells, (fun e => by cases e), (fun _ _ e => by cases e)⟩
    · obtain ⟨s, hs, rfl⟩ := sub i x hx
      rcases hw with e | e <;> cases e
    · obtain ⟨s, hs, rfl⟩ := sub i t ht
      exact sh.lt i s hs
  refine ((hc w).2.2 ρ w sh' hargs).mono fun e w' he => ?_
  obtain ⟨ρ', v, h', n', h1, h2, rfl, h4, h5, rfl⟩ := he
  exact ⟨by rw [den_congr h1 _ hrl], sh.keep h5.keeps⟩
/-- Strings in a row. -/
def strsC (L : List (List UInt8)) : Nat → SV := fun k => .str (S8 (L.getD k []))
section
variable (cx : Cx) (h : List (Nat × Seg)) (n : Nat)
theorem join_Q (i cap : Nat) (L : List (List UInt8)) (sep : List UInt8) (s : Seg) (hs : hget h i = some s) (hi : i < n) (hn : L.length ≤ s.n) (hc : ∀ k, k < L.length → s.c k = strsC L k) (hcap : L.length ≤ cap) (h9 : L.length ≤ 1000000)
    (hl : (Lib.join L sep).length ≤ 100000000) : CallQ Tryd.prog cx 32 [.sl i 0 L.length cap, .str (S8 sep)] h n (.str (S8 (Lib.join L sep))) := by
  refine ⟨Tryd.call32, by simp only [go_sem, and_self], trivial, fun ρ w sh _ => ?_⟩
  have hseg := sh.seg i s hs
  have e1 : (L.map S8).map (·.data.toList) = L := by
    rw [List.map_map]
    have : ((fun x : ByteArray => x.data.toList) ∘ S8) = id := by funext a; exact S8_list a
    rw [this, List.map_id]
  have := Tryd.strings_Join (ρ i).1 (ρ i).2 cap (L.map S8) (S8 sep) w (fun j x hx => by
    rw [List.getElem?_map] at hx
    cases hL : L[j]? with
    | none => rw [hL] at hx; cases hx
    | some b =>
      rw [hL] at hx
      cases hx
      have hj : j < L.length := (List.getElem?_eq_some_iff.1 hL).1
      have := hseg.cells j (by omega)
      rw [hc j hj] at this
      rw [this]
      show some (Value.string (S8 (L.getD j []))) = _
      rw [List.getD_eq_getElem?_getD, hL]; rfl) hseg.blk (by rw [List.length_map]; omega) (by rw [List.length_map]; exact hcap) (by rw [e1, S8_list]; omega)
  rw [e1, S8_list, List.length_map] at this
  refine this.mono fun e w' he => ⟨he.1, sh.keep (Keeps.of_below he.2)⟩
/-- What lies in the memory of a builder that holds some bytes. -/
def Bld (h : List (Nat × Seg)) (lo n i : Nat) (b : List UInt8) : Prop :=
  ∃ p V, hget h i = some ⟨2, cl [p, V], true, some (92, 2)⟩ ∧ (p = .raw (.pointer none) ∨ p = .ptr i 0) ∧ lo ≤ i ∧ i < n ∧
    ((V = .nils ∧ b = []) ∨ ∃ j cap sg, V = .sl j 0 b.length cap ∧ lo ≤ j ∧ j ≠ i ∧ j < n ∧ hget h j = some sg ∧ sg.own = some (5, cap) ∧ sg.rw = true ∧ b.length ≤ cap ∧ cap ≤ maxLen ∧ 0 < cap ∧ b.length ≤ sg.n ∧ ∀ k, k < b.length → sg.c k = bytesC b k)
theorem copyCheck_E (i : Nat) (p V : SV) (hs : hget h i = some ⟨2, cl [p, V], true, some (92, 2)⟩) (hp : p = .raw (.pointer none) ∨ p = .ptr i 0) (hi : i < n) (K : HK)
    (hK : K (.tup 0 (cl [])) (hset h i ⟨2, cl [.ptr i 0, V], true, some (92, 2)⟩) n) : CallE Tryd.prog cx 71 [.ptr i 0] h n K := by
  refine ⟨Tryd.call71, by simp only [go_sem, and_self], fun ρ w sh _ => ?_⟩
  have hseg := sh.seg i _ hs
  obtain ⟨hz, hbase, cur, hheap, hcur⟩ := hseg.own _ _ rfl
  have hc0 : w.cell? ⟨(ρ i).1, 0, none⟩ = some (den ρ p) := by
    have := hseg.cells 0 (by show 0 < 2; omega)
    rw [hz] at this
    exact this
  have hf0 : w.frozen? ⟨(ρ i).1, 0, none⟩ = false := by
    have := (hseg.rwf rfl 0 (by show 0 < 2; omega)).1
    rw [hz] at this
    exact this
  have hsh : w.shape? (ρ i).1 = some (92, 2) := by simp [World.shape?, hheap, hcur]
  have ea : [SV.ptr i 0].map (den ρ) = [.pointer (some ⟨(ρ i).1, 0, none⟩)] := by simp [den, hz]
  rw [ea]
  rcases hp with rfl | rfl
  · refine (Any.Builder_copyCheck_fresh Tryd.lay156_240 Tryd.Builder_Extra_156.toX72 (ρ i).1 w hc0 hsh hf0).mono fun e w' he => ?_
    obtain ⟨rfl, rfl⟩ := he
    obtain ⟨_, _, h3⟩ := sh.set1 hs rfl (o := 0) (by show 0 < 2; omega) (v := .ptr i 0) hi
    rw [hz] at h3
    have eu : upd (cl [SV.raw (.pointer none), V]) 0 (.ptr i 0) = cl [.ptr i 0, V] := by
      funext k
      match k with
      | 0 => rfl
      | 1 => rfl
      | k + 2 => rfl
    simp only [eu] at h3
    refine ⟨ρ, .tup 0 (cl []), _, n, fun _ _ => rfl, Nat.le_refl _, rfl, fun j hj => absurd hj (Nat.not_lt_zero j), ?_, hK⟩
    have ed : den ρ (.ptr i 0) = .pointer (some ⟨(ρ i).1, 0, none⟩) := by simp [den, hz]
    rw [ed] at h3
    exact h3
  · have ed : den ρ (.ptr i 0) = .pointer (some ⟨(ρ i).1, 0, none⟩) := by simp [den, hz]
    rw [ed] at hc0
    refine (Any.Builder_copyCheck_used Tryd.lay156_240 Tryd.Builder_Extra_156.toX72 (ρ i).1 w hc0).mono fun e w' he => ?_
    obtain ⟨rfl, rfl⟩ := he
    rw [hset_self hs] at hK
    exact ⟨ρ, .tup 0 (cl []), h, n, fun _ _ => rfl, Nat.le_refl _, rfl, fun j hj => absurd hj (Nat.not_lt_zero j), sh, hK⟩
theorem bldString_E (lo i : Nat) (b : List UInt8) (hB : Bld h lo n i b) (hb : b ≠ []) (K : HK) (hK : K (.str (S8 b)) [] n) : CallE Tryd.prog cx 61 [.ptr i 0] h n K := by
  obtain ⟨p, V, hs, hp, h1, h2, hV⟩ := hB
  rcases hV with ⟨_, e⟩ | ⟨j, cap, sg, rfl, j1, j2, j3, j4, j5, j6, j7, j8, j9, j10, j11⟩
  · exact absurd e hb
  refine ⟨Tryd.call61, by simp only [go_sem, and_self], fun ρ w sh _ => ?_⟩
  have hseg := sh.seg i _ hs
  obtain ⟨hz, hbase, cur, hheap, hcur⟩ := hseg.own _ _ rfl
  have hsegj := sh.seg j _ j4
  obtain ⟨hzj, hbasej, curj, hheapj, hcurj⟩ := hsegj.own _ _ j5
  have ea : [SV.ptr i 0].map (den ρ) = [.pointer (some ⟨(ρ i).1, 0, none⟩)] := by simp [den, hz]
  rw [ea]
  have hcells : cur = #[den ρ p, .slice (some ⟨(ρ j).1, 0, none⟩) b.length cap] := by
    have c0 := hseg.cells 0 (by show 0 < 2; omega)
    have c1 := hseg.cells 1 (by show 1 < 2; omega)
    simp only [World.cell?, hheap, hz, Nat.zero_add] at c0 c1
    have c0 : cur[0]? = some (den ρ p) := by simpa [cl] using c0
    have c1 : cur[1]? = some (den ρ (.sl j 0 b.length cap)) := by simpa [cl] using c1
    apply Array.ext_getElem?
    intro k
    match k with
    | 0 => rw [c0]; rfl
    | 1 => rw [c1]; simp [den, hzj]
    | k + 2 => rw [Array.getElem?_eq_none (by omega), Array.getElem?_eq_none (by simp)]
  have hdisj : (ρ i).1 ≠ (ρ j).1 := by
    rcases sh.dis i j _ _ (Ne.symm j2) hs j4 (.inl rfl) with e | ⟨e, _⟩
    · exact e
    · cases e
  have hIs : Lib.IsBuilder 92 5 cx.w0.heap.size (ρ i).1 (Lib.byteCells b) w := by
    have hat : Lib.BuilderAt 92 5 cx.w0.heap.size (ρ i).1 (den ρ p) (Lib.byteCells b) w := by
      refine ⟨hbase, .slice (some ⟨(ρ j).1, 0, none⟩) b.length cap, by rw [hheap, hcells], ⟨by rw [Lib.byteCells_length, Nat.mul_one], .inr ⟨(ρ j).1, cap, curj, by rw [Lib.byteCells_length], hbasej, hheapj, by rw [Lib.byteCells_length]; exact j7, j8, by rw [hcurj, Nat.mul_one], ?_⟩⟩, by simp [Value.ownBlock]; exact Ne.symm hdisj⟩
      rw [Lib.byteCells_length, Nat.mul_one]
      apply List.ext_getElem?
      intro k
      by_cases hk : k < b.length
      · rw [List.getElem?_take_of_lt hk, Array.getElem?_toList]
        have := hsegj.cells k (by omega)
        simp only [World.cell?, hheapj, hzj, Nat.zero_add] at this
        have h3 : curj[k]? = some (den ρ (bytesC b k)) := by rw [← j11 k hk]; simpa using this
        rw [h3]
        unfold Lib.byteCells bytesC
        rw [List.getElem?_map, List.getElem?_eq_getElem hk, List.getD_eq_getElem?_getD, List.getElem?_eq_getElem hk]
        rfl
      · rw [List.getElem?_eq_none (by simp; omega), List.getElem?_eq_none (by rw [Lib.byteCells_length]; omega)]
    rcases hp with rfl | rfl
    · exact .inl hat
    · have ed : den ρ (.ptr i 0) = .pointer (some ⟨(ρ i).1, 0, none⟩) := by simp [den, hz]
      rw [ed] at hat
      exact .inr hat
  refine (Tryd.Builder_String cx.w0.heap.size (ρ i).1 b w hIs hb).mono fun e w' he => ?_
  obtain ⟨rfl, hbel⟩ := he
  refine ⟨ρ, .str (S8 b), [], n, fun _ _ => rfl, Nat.le_refl _, rfl, trivial, ⟨⟨hbel.os.trans sh.keeps.os, hbel.tape.trans sh.keeps.tape, hbel.output.trans sh.keeps.output, Nat.le_trans sh.keeps.size hbel.size, fun x hx => ?_⟩, fun i t ht => (by cases ht), fun i j x y _ hx => (by cases hx), fun i t ht => (by cases ht)⟩, hK⟩
  exact (sh.keeps.blk x hx).trans (W' := cx.W x) (ObjK.of_eq (hbel.block x hx)) fun _ h => h
end
end Go.Proofs.YtckefhnobflhcaaDoor.V

/- WriteString: the walk. -/
namespace Go.Proofs.YtckefhnobflhcaaDoor.V
@[go_sem] theorem ofV_nilIface : ofV .nilIface = .raw .nilIface := rfl
theorem u8_U8 : U8 (ti 5) := ⟨rfl, rfl, rfl, rfl⟩
section
variable (cx : Cx) (h : List (Nat × Seg)) (n : Nat)
theorem writeStr_E (lo i : Nat) (b s : List UInt8) (hB : Bld h lo n i b) (h0 : 0 < s.length) (h9 : b.length + s.length ≤ 1000000000) (K : HK)
    (hK : ∀ h' n', n ≤ n' → HExt lo h h' → HOk n' h' → Bld h' lo n' i (b ++ s) → K (.tup 2 (cl [.int .i64 s.length, .raw .nilIface])) h' n') :
    CallE Tryd.prog cx 60 [.ptr i 0, .str (S8 s)] h n K := by
  obtain ⟨p, V, hs, hp, h1, h2, hV⟩ := hB
  refine CallE.hokE ?_
  refine callE_of_T (P := Tryd.prog) hti (nt := 19) (rs := [.tmp 4, .tmp 5]) rfl rfl Tryd.call60 Tryd.func60 rfl _ (by simp only [go_sem, and_self]) (Nat.le_of_ble_eq_true rfl) _ fun hok => ?_
  simp only [go_sem, Nat.reduceLT]
  refine callA_false (copyCheck_E _ _ _ i p V hs hp h2 _ ?_)
  have hs1 := hget_hset_self hs ⟨2, cl [.ptr i 0, V], true, some (92, 2)⟩
  have ok1 : HOk n (hset h i ⟨2, cl [.ptr i 0, V], true, some (92, 2)⟩) := HOk.hset hok fun k hk => by
    have hk : k < 2 := hk
    match k with
    | 0 => exact h2
    | 1 => exact (hok i _ hs).2 1 (by show 1 < 2; omega)
    | k + 2 => omega
  rcases hV with ⟨rfl, rfl⟩ | ⟨j, cap, sg, rfl, j1, j2, j3, j4, j5, j6, j7, j8, j9, j10, j11⟩
  · have hsz : (S8 s).size = s.length := S8_size s
    simp only [go_sem, Nat.reduceLT, reduceCtorEq, hs1, h2]
    refine ⟨rfl, strNil_sem hti (e := 5) (s := S8 s) rfl (by simp [dok]) rfl rfl u8_U8 rfl rfl (by omega) (by omega) fun cap c1 c2 => ?_⟩
    rw [hsz] at c1
    rw [S8_list, hsz]
    have hmi : (n == i) = false := by simp; omega
    have hsi : hget ((n, ⟨s.length, bytesC s, true, some (5, cap)⟩) :: hset h i ⟨2, cl [.ptr i 0, .nils], true, some (92, 2)⟩) i = some ⟨2, cl [.ptr i 0, .nils], true, some (92, 2)⟩ := by simp only [hget]; rw [if_neg (by omega)]; exact hs1
    have hli : i < n + 1 := by omega
    simp only [go_sem, Nat.reduceLT, Nat.reduceEqDiff, reduceIte, reduceCtorEq, hsi, hli]
    refine fun ok' => hK _ (n + 1) (by omega) (fun z hz t ht => ?_) ok' ?_
    · rw [hget_hset, if_neg (by omega)]
      simp only [hget]
      rw [if_neg (by omega), hget_hset, if_neg (by omega)]
      exact ht
    · rw [List.nil_append]
      refine ⟨.ptr i 0, .sl n 0 s.length cap, hget_hset_self hsi _, .inr rfl, h1, by omega, .inr ⟨n, cap, ⟨s.length, bytesC s, true, some (5, cap)⟩, rfl, by omega, by omega, by omega, ?_, rfl, rfl, c1, c2, by omega, Nat.le_refl _, fun _ _ => rfl⟩⟩
      rw [hget_hset, if_neg (by omega)]
      exact hget_hit _ _ _
  · have hsz : (S8 s).size = s.length := S8_size s
    have hj1 : hget (hset h i ⟨2, cl [.ptr i 0, .sl j 0 b.length cap], true, some (92, 2)⟩) j = some sg := by rw [hget_hset, if_neg (Ne.symm j2)]; exact j4
    simp only [go_sem, Nat.reduceLT, reduceCtorEq, hs1, h2]
    refine ⟨rfl, strOwn_sem hti (e := 5) (s := S8 s) (b := b) (sg := sg) rfl (by simp [dok]) rfl rfl u8_U8 rfl rfl (by omega) hj1 j5 j7 j8 j9 j10 rfl j11 fun cap' c1 c2 => ?_⟩
    rw [hsz] at c1
    rw [S8_list, hsz]
    have hsi : hget ((n, ⟨b.length + s.length, bytesC (b ++ s), true, some (5, cap')⟩) :: hdel (hset h i ⟨2, cl [.ptr i 0, .sl j 0 b.length cap], true, some (92, 2)⟩) j) i = some ⟨2, cl [.ptr i 0, .sl j 0 b.length cap], true, some (92, 2)⟩ := by simp only [hget]; rw [if_neg (by omega), hget_hdel, if_neg j2]; exact hs1
    have hli : i < n + 1 := by omega
    simp only [go_sem, Nat.reduceLT, Nat.reduceEqDiff, reduceIte, reduceCtorEq, hsi, hli]
    refine fun ok' => hK _ (n + 1) (by omega) (fun z hz t ht => ?_) ok' ?_
    · rw [hget_hset, if_neg (by omega)]
      simp only [hget]
      rw [if_neg (by omega), hget_hdel, if_neg (by omega), hget_hset, if_neg (by omega)]
      exact ht
    · refine ⟨.ptr i 0, .sl n 0 (b.length + s.length) cap', hget_hset_self hsi _, .inr rfl, h1, by omega, .inr ⟨n, cap', ⟨b.length + s.length, bytesC (b ++ s), true, some (5, cap')⟩, by rw [List.length_append], by omega, by omega, by omega, ?_, rfl, rfl, by rw [List.length_append]; exact c1, c2, by omega, by rw [List.length_append]; exact Nat.le_refl _, fun _ _ => rfl⟩⟩
      rw [hget_hset, if_neg (by omega)]
      exact hget_hit _ _ _
end
end Go.Proofs.YtckefhnobflhcaaDoor.V

/- Numbers' texts: the library's FormatInt at base 10 (out of the kit's shelf), and the reference's Decimal. -/
namespace Go.Proofs.YtckefhnobflhcaaDoor.V
open Go.RowKit
section
variable {P : Program} {ti : Nat → TI} {cx : Cx} {l : List (Nat × SV)} {h : List (Nat × Seg)} {n : Nat} {K : List (Nat × SV) → List (Nat × Seg) → Nat → Prop}
/-- Bytes, as a string. -/
theorem bytes_sem (hti : ∀ t, TyOK P t (ti t)) {o : Oper} {x : Operand} {s t e : Nat} (hop : o.op = .convert s t x) (hd : dok cx.nt o.dst) (hs : (ti s).k = .sl e) (ht : (ti t).k = .str) (he : U8 (ti e)) {b : List UInt8} {j off cap : Nat} {sg : Seg}
    (hx : ev l x = .sl j off b.length cap) (hj : hget h j = some sg) (hls : off + b.length ≤ sg.n) (hcell : ∀ k, k < b.length → sg.c (off + k) = .int .u8 ((b.getD k 0).toNat : Int))
    (hK : K (put l o.dst (.str (S8 b))) h n) : OpSem P cx o l h n K := by
  intro ρ a w st sh hn
  have hu := (hti s).und; rw [hs] at hu
  have hv := (hti t).und; rw [ht] at hv
  have hw := (hti e).und; rw [he.k] at hw
  obtain ⟨e1, _⟩ := ev_sound st x (by rw [hx]; simp)
  rw [hx] at e1
  have hseg := sh.seg j sg hj
  refine upon_value_eq (v := den ρ (.str (S8 b))) (w' := w) ?_ _ _ ⟨ρ, _, _, n, fun _ _ => rfl, st.put _ (.str (S8 b)) trivial (dok_lt hd), sh, hn, hK⟩
  obtain ⟨d, op, ty, pos, af, g⟩ := o
  simp only at hop; subst hop
  have := run_convert_bytes_back (P := P) w s t e ⟨(ρ j).1, (ρ j).2 + off, none⟩ cap b hu hw hv (fun k hk => by
    have := hseg.cells (off + k) (by omega)
    rw [hcell k hk] at this
    have h2 : b.getD k 0 = b[k] := by rw [List.getD_eq_getElem?_getD, List.getElem?_eq_getElem hk]; rfl
    rw [h2] at this
    have ea : Addr.add ⟨(ρ j).1, (ρ j).2 + off, none⟩ k = ⟨(ρ j).1, (ρ j).2 + (off + k), none⟩ := by
      unfold Addr.add
      by_cases e : k = 0
      · subst e; simp
      · simp [e, Nat.add_assoc]
    rw [ea]
    exact this)
  simp [execOp, e1, den]
  rw [this]
  rfl
end
/-- The table of the powers of ten holds what it should, as long as the frame lasts. -/
def TabOk (cx : Cx) : Prop := ∀ w, Keeps cx.W cx.w0 w → Lib.TabIs Tryd.prog w "internal/strconv.uint64pow10" .u64 Lib.pow10Tab
theorem TabOk.to {cx : Cx} (hT : TabOk cx) {ρ : Rho} {h : List (Nat × Seg)} {n : Nat} {w : World} (sh : SatH cx ρ h n w) (nt n0 : Nat) : TabOk ⟨w, Noth, nt, n0⟩ := fun w' k => hT w' (sh.keeps.then k)
theorem TabOk.sub {cx : Cx} (hT : TabOk cx) (nt n0 : Nat) : TabOk ⟨cx.w0, cx.W, nt, n0⟩ := hT
theorem callQ_freshT {cx : Cx} {f : Nat} {args : List SV} {h : List (Nat × Seg)} {n : Nat} {r : SV} (hT : TabOk cx) (hrl : r.lt n) (hr : Runs Tryd.prog f) (hok : oks args)
    (hc : ∀ w0, TabOk ⟨w0, Noth, 0, n⟩ → CallE Tryd.prog ⟨w0, Noth, 0, n⟩ f args (ro h) n fun v _ _ => v = r) : CallQ Tryd.prog cx f args h n r := by
  refine ⟨hr, hok, hrl, fun ρ w sh hargs => ?_⟩
  have sub : ∀ i t, hget (ro h) i = some t → ∃ s, hget h i = some s ∧ t = roS s := fun i t ht => by
    rw [hget_ro] at ht
    cases hs : hget h i with
    | none => rw [hs] at ht; cases ht
    | some s => rw [hs] at ht; cases ht; exact ⟨s, rfl, rfl⟩
  have sh' : SatH ⟨w, Noth, 0, n⟩ ρ (ro h) n w := by
    refine ⟨Keeps.refl _ _, fun i t ht => ?_, fun i j x y hij hx hy hw => ?_, fun i t ht => ?_⟩
    · obtain ⟨s, hs, rfl⟩ := sub i t ht
      have := sh.seg i s hs
      exact ⟨this.blk, this.cells, (fun e => by cases e), (fun _ _ e => by cases e)⟩
    · obtain ⟨s, hs, rfl⟩ := sub i x hx
      rcases hw with e | e <;> cases e
    · obtain ⟨s, hs, rfl⟩ := sub i t ht
      exact sh.lt i s hs
  refine ((hc w (hT.to sh _ _)).2.2 ρ w sh' hargs).mono fun e w' he => ?_
  obtain ⟨ρ', v, h', n', h1, h2, rfl, h4, h5, rfl⟩ := he
  exact ⟨by rw [den_congr h1 _ hrl], sh.keep h5.keeps⟩
/-- A number's text. -/
def decL (m : Nat) : List UInt8 := Lib.decDigits m
theorem decL_len (m : Nat) (h : m < 10000000000) : (decL m).length ≤ 10 := by
  unfold decL
  rw [Lib.decDigits_length]
  have key : ∀ (k m : Nat), m < 10 ^ (k + 1) → Lib.nDigits m ≤ k + 1 := fun k => by
    induction k with
    | zero => intro m hm; rw [Lib.nDigits_small (by simpa using hm)]; exact Nat.le_refl _
    | succ k ih =>
      intro m hm
      by_cases h10 : m < 10
      · rw [Lib.nDigits_small h10]; omega
      · rw [Lib.nDigits_big h10]
        have := ih (m / 10) (by rw [Nat.pow_succ] at hm; omega)
        omega
  exact key 9 m (by simpa using h)
section
variable (cx : Cx) (h : List (Nat × Seg)) (n : Nat)
theorem format_Q (hT : TabOk cx) (m : Nat) (hm : m < 10000000000) : CallQ Tryd.prog cx 66 [.int .i64 m, .int .i64 10] h n (.str (S8 (decL m))) := by
  refine ⟨Tryd.call66, by simp only [go_sem, and_self], trivial, fun ρ w sh _ => ?_⟩
  refine (Tryd.strconv_FormatInt_10 (m : Int) (by omega) (by omega) w (hT w sh.keeps)).mono fun e w' he => ?_
  obtain ⟨rfl, k, os, rfl⟩ := he
  refine ⟨?_, sh.keep ⟨rfl, rfl, rfl, by simp [Go.Sort.grow], fun b hb => ObjK.of_eq (Go.Sort.heap_grow_old (w.drewN k) os hb)⟩⟩
  have e1 : Lib.itoa (m : Int) = decL m := by unfold Lib.itoa decL; rw [if_neg (by omega)]; rfl
  rw [e1]; rfl
theorem decimal_Q (hT : TabOk cx) (m : Nat) (hm : m < 10000000000) : CallQ Tryd.prog cx 48 [.int .i64 m] h n (.str (S8 (decL m))) := by
  refine callQ_of_T (P := Tryd.prog) hti (nt := 5) (rs := [.tmp 2]) rfl rfl Tryd.call48 Tryd.func48 rfl _ (by simp only [go_sem, and_self]) (Nat.le_of_ble_eq_true rfl) _ (by first | exact trivial | (refine lt_flat rfl ?_; simp [SV.flat]; done) | simp only [go_sem]) fun hok => ?_
  simp only [go_sem, Nat.reduceLT]
  refine (format_Q _ _ _ (hT.sub _ _) m hm).A ?_
  simp only [go_sem, Nat.reduceLT]
set_option maxRecDepth 20000 in
theorem decimal2_Q (m : Nat) (hm : m < 10000000000) : CallQ Tryd.prog cx 50 [.int .i64 m] h n (.str (S8 (decL m))) := by
  induction m using Nat.strongRecOn generalizing cx h n with
  | ind m ih =>
    refine callQ_fresh trivial fun w0 => ?_
    generalize ro h = hr at *
    refine callE_of_T (P := Tryd.prog) hti (nt := 21) (rs := [.tmp 2]) rfl rfl Tryd.call50 Tryd.func50 rfl _ (by simp only [go_sem, and_self]) (Nat.le_of_ble_eq_true rfl) _ fun hok => ?_
    have e0 : IntKind.u8.wrap (IntKind.i64.wrap (48 + (m : Int).tmod 10)) = ((UInt8.ofNat (48 + m % 10)).toNat : Int) := by
      have e1 : (m : Int).tmod 10 = ((m % 10 : Nat) : Int) := by rw [Int.tmod_eq_emod_of_nonneg (by omega)]; omega
      have h9 : m % 10 < 10 := Nat.mod_lt _ (by omega)
      rw [e1]
      generalize m % 10 = r at *
      have : ∀ r : Fin 10, IntKind.u8.wrap (IntKind.i64.wrap (48 + ((r.1 : Nat) : Int))) = ((UInt8.ofNat (48 + r.1)).toNat : Int) := by decide
      exact this ⟨r, h9⟩
    have hdv : (m : Int).tdiv 10 = ((m / 10 : Nat) : Int) := by rw [Int.tdiv_eq_ediv_of_nonneg (by omega)]; omega
    by_cases h10 : m < 10
    · have hd : decide ((m : Int) < 10) = true := by simp; omega
      simp only [go_sem, Nat.reduceLT, Nat.reduceLeDiff, Int.reduceEq, hd, e0]
      refine ⟨rfl, bytes_sem hti (e := 5) (b := [UInt8.ofNat (48 + m % 10)]) rfl (by simp [dok]) rfl rfl u8_U8 rfl (hget_hit _ _ _) (Nat.le_refl _) (fun k hk => ?_) ?_⟩
      · have e : k = 0 := by simpa using hk
        subst e
        rfl
      simp only [go_sem, Nat.reduceLT]
      unfold decL
      rw [Lib.decDigits_one h10, Nat.mod_eq_of_lt h10]
    · have hd : decide ((m : Int) < 10) = false := by simp; omega
      simp only [go_sem, Nat.reduceLT, hd]
      refine T_drawG hti 11 [] (.b 0 0 (.b 0 1 (.b 0 3 (.b 0 4 (.b 0 5 (.b 0 6 (.b 1 2 (.b 2 7 (.b 2 8 (.b 0 9 (.b 0 10 (.f) .o) .o) .o) .o) .o) .o) .o) .o) .o) .o) .o) _ _ (by kernel_rfl) (by kernel_rfl) ?_
      have hdw : IntKind.i64.wrap ((m / 10 : Nat) : Int) = ((m / 10 : Nat) : Int) := w64 (by omega)
      simp only [go_sem, Nat.reduceLT, Int.reduceEq, hdv, hdw]
      refine CallQ.F _ (fun h' n' hn' hx' => ih (m / 10) (by omega) _ h' n' (by omega)) ?_
      simp only [go_sem, Nat.reduceLT, Nat.reduceLeDiff, e0]
      refine ⟨rfl, bytes_sem hti (e := 5) (b := [UInt8.ofNat (48 + m % 10)]) rfl (by simp [dok]) rfl rfl u8_U8 rfl (hget_hit _ _ _) (Nat.le_refl _) (fun k hk => ?_) ?_⟩
      · have e : k = 0 := by simpa using hk
        subst e
        rfl
      simp only [go_sem, Nat.reduceLT, Nat.reduceLeDiff]
      have hl := decL_len (m / 10) (by omega)
      refine ⟨by omega, ?_⟩
      have ed : decL m = decL (m / 10) ++ [UInt8.ofNat (48 + m % 10)] := by
        unfold decL
        conv => lhs; rw [Lib.decDigits, dif_neg h10]
      rw [ed]
end
end Go.Proofs.YtckefhnobflhcaaDoor.V

/- The lines of a sheet's text: the walk. -/
namespace Go.Proofs.YtckefhnobflhcaaDoor.V
def rowL (W : Nat) (sep : List UInt8) (wd : Nat → Nat → List UInt8) (y : Nat) : List UInt8 := Lib.join ((List.range W).map fun x => wd x y) sep
/-- A text with a line for each row. -/
def linesK (W : Nat) (sep : List UInt8) (wd : Nat → Nat → List UInt8) : Nat → List UInt8
  | 0 => []
  | k + 1 => linesK W sep wd k ++ (rowL W sep wd k ++ [10])
theorem joinTail_le (sep : List UInt8) (m : Nat) : ∀ (L : List (List UInt8)), (∀ a ∈ L, a.length ≤ m) → (Lib.joinTail sep L).length ≤ L.length * (m + sep.length)
  | [], _ => by simp [Lib.joinTail]
  | a :: L, h => by
    have ih := joinTail_le sep m L fun b hb => h b (List.mem_cons_of_mem _ hb)
    have h1 := h a (List.mem_cons_self ..)
    have e : Lib.joinTail sep (a :: L) = (sep ++ a) ++ Lib.joinTail sep L := by simp [Lib.joinTail]
    rw [e, List.length_append, List.length_append, List.length_cons, Nat.add_mul]
    omega
theorem join_le (sep : List UInt8) (m : Nat) (L : List (List UInt8)) (h : ∀ a ∈ L, a.length ≤ m) : (Lib.join L sep).length ≤ L.length * (m + sep.length) := by
  cases L with
  | nil => simp [Lib.join_nil]
  | cons a L =>
    have ih := joinTail_le sep m L fun b hb => h b (List.mem_cons_of_mem _ hb)
    have h1 := h a (List.mem_cons_self ..)
    rw [Lib.join_cons, List.length_append, List.length_cons, Nat.add_mul]
    omega
theorem rowL_le {W : Nat} {sep : List UInt8} {wd : Nat → Nat → List UInt8} (hs : sep.length ≤ 10) (hw : ∀ x y, (wd x y).length ≤ 1000) (hW : W ≤ 8) (y : Nat) : (rowL W sep wd y).length ≤ 8080 := by
  unfold rowL
  have := join_le sep 1000 ((List.range W).map fun x => wd x y) (fun a ha => by
    obtain ⟨x, _, rfl⟩ := List.mem_map.1 ha
    exact hw x y)
  rw [List.length_map, List.length_range] at this
  have h2 : W * (1000 + sep.length) ≤ 8 * 1010 := Nat.mul_le_mul hW (by omega)
  omega
theorem linesK_le {W : Nat} {sep : List UInt8} {wd : Nat → Nat → List UInt8} (hs : sep.length ≤ 10) (hw : ∀ x y, (wd x y).length ≤ 1000) (hW : W ≤ 8) : ∀ k, (linesK W sep wd k).length ≤ 9000 * k
  | 0 => by simp [linesK]
  | k + 1 => by
    have ih := linesK_le hs hw hW k
    have := rowL_le hs hw hW k
    rw [linesK, List.length_append, List.length_append, List.length_singleton]
    omega
/-- A list of strings to which one may append. -/
def StrO (h : List (Nat × Seg)) (lo n : Nat) (V : SV) (L : List (List UInt8)) : Prop :=
  ∃ j cap s, V = .sl j 0 L.length cap ∧ lo ≤ j ∧ j < n ∧ hget h j = some s ∧ s.own = some (9, cap) ∧ s.rw = true ∧ s.n = L.length ∧ L.length ≤ cap ∧ cap ≤ maxLen ∧ ∀ k, k < L.length → s.c k = strsC L k
theorem strApp1 {h hq : List (Nat × Seg)} {n nq jv cap : Nat} {A : List (List UInt8)} {a : List UInt8} {sc c1 : Nat → SV} {w : Option (Nat × Nat)} (I1 : n ≤ nq) (I2 : HOk nq hq) (I3 : HExt n h hq) (v1 : n ≤ jv) (c10 : c1 0 = .str (S8 a))
    (v9 : ∀ k, k < A.length → sc k = strsC A k) (m1 : A.length + 1 ≤ cap) (m2 : cap ≤ maxLen) :
    HOk (nq + 2) ((nq + 1, ⟨A.length + 1, both A.length sc (news c1 0), true, some (9, cap)⟩) :: (nq, ⟨1, c1, true, w⟩) :: hdel hq jv) ∧
    HExt n h ((nq + 1, ⟨A.length + 1, both A.length sc (news c1 0), true, some (9, cap)⟩) :: (nq, ⟨1, c1, true, w⟩) :: hdel hq jv) ∧
    StrO ((nq + 1, ⟨A.length + 1, both A.length sc (news c1 0), true, some (9, cap)⟩) :: (nq, ⟨1, c1, true, w⟩) :: hdel hq jv) n (nq + 2) (.sl (nq + 1) 0 (A.length + 1) cap) (A ++ [a]) := by
  have hbo : ∀ k, k < A.length + 1 → both A.length sc (news c1 0) k = strsC (A ++ [a]) k := fun k hk => by
    unfold both news
    split
    · rename_i hk2
      rw [v9 k hk2]
      unfold strsC
      rw [List.getD_eq_getElem?_getD, List.getD_eq_getElem?_getD, List.getElem?_append_left hk2]
    · rename_i hk2
      have e : k = A.length := by omega
      subst e
      rw [Nat.sub_self, Nat.zero_add, c10]
      unfold strsC
      simp
  have okd : HOk nq (hdel hq jv) := fun i t hi => by
    rw [hget_hdel] at hi
    split at hi
    · cases hi
    · exact I2 i t hi
  refine ⟨fun i t hi => ?_, fun z hz t ht => ?_, nq + 1, cap, _, by rw [List.length_append]; rfl, by omega, by omega, hget_hit _ _ _, rfl, rfl, by rw [List.length_append]; rfl, by rw [List.length_append]; exact m1, m2, fun k hk => hbo k (by rw [List.length_append] at hk; exact hk)⟩
  · simp only [hget] at hi
    split at hi
    · rename_i e; cases hi
      refine ⟨by omega, fun k hk => ?_⟩
      show (both A.length sc (news c1 0) k).lt _
      rw [hbo k hk]; trivial
    · split at hi
      · rename_i e; cases hi
        refine ⟨by omega, fun k hk => ?_⟩
        have hk : k < 1 := hk
        have e : k = 0 := by omega
        subst e
        show (c1 0).lt _
        rw [c10]; trivial
      · exact ⟨by have := (okd i t hi).1; omega, fun k hk => SV.lt_mono (by omega) _ ((okd i t hi).2 k hk)⟩
  · simp only [hget]
    rw [if_neg (by omega), if_neg (by omega), hget_hdel, if_neg (by omega)]
    exact I3 z hz t ht
theorem Bld.ext {h h' : List (Nat × Seg)} {lo n n' i : Nat} {b : List UInt8} (hB : Bld h lo n i b) (hn : n ≤ n') (hx : HExt n h h') : Bld h' lo n' i b := by
  obtain ⟨p, V, hs, hp, h1, h2, hV⟩ := hB
  refine ⟨p, V, hx i h2 _ hs, hp, h1, by omega, ?_⟩
  rcases hV with e | ⟨j, cap, sg, e, j1, j2, j3, j4, j5⟩
  · exact .inl e
  · exact .inr ⟨j, cap, sg, e, j1, j2, by omega, hx j j3 _ j4, j5⟩
section
variable (cx : Cx) (h : List (Nat × Seg)) (n : Nat)
set_option maxHeartbeats 1600000 in
theorem lines_E (w0 : World) (j o : Nat) (sg : Seg) (W H : Nat) (sep : List UInt8) (f a b : Nat) (G F : Nat → SV) (wd : Nat → Nat → List UInt8)
    (hs : hget h j = some sg) (hj : j < n) (ho : o + 2 ≤ sg.n) (hw : sg.c o = .int .i8 W) (hh : sg.c (o + 1) = .int .i8 H) (w1 : 1 ≤ W) (hW8 : W ≤ 8) (h1 : 1 ≤ H) (h8 : H ≤ 8) (hsep : sep.length ≤ 10) (hwd : ∀ x y, (wd x y).length ≤ 1000) (hF : (SV.fn f a G b F).lt n)
    (hof : ∀ (x y : Nat), x < W → y < H → ∀ (nt n0 : Nat) (h' : List (Nat × Seg)) (n' : Nat), n ≤ n' → HExt n (ro h) h' → CallQ Tryd.prog ⟨w0, Noth, nt, n0⟩ f (lst a G ++ [spot x y] ++ lst b F) h' n' (.str (S8 (wd x y)))) :
    CallE Tryd.prog ⟨w0, Noth, 0, n⟩ 46 [.ptr j o, .str (S8 sep), .fn f a G b F] (ro h) n fun v _ _ => v = .str (S8 (linesK W sep wd H)) := by
  have hFm : ∀ m, n ≤ m → (∀ j, j < a → (G j).lt m) ∧ ∀ j, j < b → (F j).lt m := fun m hm => ⟨fun j hj => SV.lt_mono hm _ (hF.1 j hj), fun j hj => SV.lt_mono hm _ (hF.2 j hj)⟩
  have hsr : hget (ro h) j = some ⟨sg.n, sg.c, false, none⟩ := ro_some hs
  generalize ro h = hr at *
  refine callE_of_T (P := Tryd.prog) hti (nt := 43) (rs := [.tmp 6]) rfl rfl Tryd.call46 Tryd.func46 rfl _ (by simp only [go_sem, and_self]) (Nat.le_of_ble_eq_true rfl) _ fun hok => ?_
  have b1 : o + 1 ≤ sg.n := by omega
  have b2 : o + 1 + 1 ≤ sg.n := by omega
  have b3 : o ≤ sg.n - 1 := by omega
  have b4 : o + 1 ≤ sg.n - 1 := by omega
  have b5 : 1 ≤ sg.n := by omega
  have b6 : o < sg.n := by omega
  have b7 : o + 1 < sg.n := by omega
  simp only [go_sem, Nat.reduceLT, reduceIte, reduceCtorEq, hsr, hj, hh, b1, b2, b3, b4, b5, b6, b7]
  refine ⟨rfl, ?_⟩
  have ok0 : HOk (n + 1) ((n, ⟨2, cl [.raw (.pointer none), .nils], true, some (92, 2)⟩) :: hr) := fun i t hi => by
    simp only [hget] at hi
    split at hi
    · rename_i e; cases hi
      refine ⟨by omega, fun k hk => ?_⟩
      have hk : k < 2 := hk
      match k with
      | 0 => trivial
      | 1 => trivial
      | k + 2 => omega
    · exact ⟨by have := (hok i t hi).1; omega, fun k hk => SV.lt_mono (by omega) _ ((hok i t hi).2 k hk)⟩
  have B0 : Bld ((n, ⟨2, cl [.raw (.pointer none), .nils], true, some (92, 2)⟩) :: hr) n (n + 1) n [] := ⟨_, _, hget_hit _ _ _, .inl rfl, Nat.le_refl _, by omega, .inl ⟨rfl, rfl⟩⟩
  have X0 : HExt n hr ((n, ⟨2, cl [.raw (.pointer none), .nils], true, some (92, 2)⟩) :: hr) := fun z hz t ht => by simp only [hget]; rw [if_neg (by omega)]; exact ht
  generalize ((n, (⟨2, cl [.raw (.pointer none), .nils], true, some (92, 2)⟩ : Seg)) :: hr) = h0 at *
  refine T_lp (ι := { q : Nat × List (Nat × Seg) × Nat // q.1 ≤ H ∧ n + 1 ≤ q.2.2 ∧ HOk q.2.2 q.2.1 ∧ HExt n hr q.2.1 ∧ Bld q.2.1 n q.2.2 n (linesK W sep wd q.1) })
    (fun q => ([(0, .ptr j o), (1, .str (S8 sep)), (2, .fn f a G b F), (7, .ptr n 0), (15, .int .i8 H), (16, .int .i8 q.1.1)], q.1.2.1, q.1.2.2)) (fun q => H - q.1.1) ⟨(0, h0, n + 1), Nat.zero_le _, Nat.le_refl _, ok0, X0, B0⟩ ?_ ?_
  · refine Imp.id (by show n ≤ n + 1; omega) ?_ (impH.base0 ok0 (Nat.le_refl _) HExt.rfl)
    simp only [go_sem, Nat.reduceLT]
    exact ⟨by omega, hFm _ (by omega), by omega⟩
  rintro ⟨⟨y, hq, nq⟩, hyH, hnq, okq, xq, Bq⟩
  simp only at hyH hnq okq xq Bq
  have sq := xq j hj _ hsr
  have jq : j < nq := by omega
  have hll := linesK_le (wd := wd) hsep hwd hW8 y
  simp only [go_sem, Nat.reduceLT, reduceCtorEq, decide_eq_true_eq, decide_eq_false_iff_not]
  refine ⟨fun hy1 => ?_, fun hy1 => ?_⟩
  rotate_left
  · have e : y = H := by omega
    subst e
    refine callA_false (bldString_E _ _ _ n n _ Bq (by
      obtain ⟨k, rfl⟩ : ∃ k, y = k + 1 := ⟨y - 1, by omega⟩
      rw [linesK]
      simp) _ ?_)
    simp only [go_sem, Nat.reduceLT]
    done
  simp only [go_sem, Nat.reduceLT, sq, jq, hw, b1, b2, b3, b4, b5, b6, b7]
  generalize zrow _ = Z
  have ok1 : HOk (nq + 1) ((nq, ⟨0, Z, true, some (9, 0)⟩) :: hq) := fun i t hi => by
    simp only [hget] at hi
    split at hi
    · rename_i e; cases hi
      exact ⟨by omega, fun k hk => absurd hk (Nat.not_lt_zero k)⟩
    · exact ⟨by have := (okq i t hi).1; omega, fun k hk => SV.lt_mono (by omega) _ ((okq i t hi).2 k hk)⟩
  have X1 : HExt nq hq ((nq, ⟨0, Z, true, some (9, 0)⟩) :: hq) := fun z hz t ht => by simp only [hget]; rw [if_neg (by omega)]; exact ht
  have S1 : StrO ((nq, ⟨0, Z, true, some (9, 0)⟩) :: hq) nq (nq + 1) (.sl nq 0 0 0) [] := ⟨nq, 0, _, rfl, Nat.le_refl _, by omega, hget_hit _ _ _, rfl, rfl, rfl, Nat.le_refl _, Nat.zero_le _, fun k hk => absurd hk (Nat.not_lt_zero k)⟩
  generalize ((nq, (⟨0, Z, true, some (9, 0)⟩ : Seg)) :: hq) = h1 at *
  refine T_lp (ι := { q : Nat × List (Nat × Seg) × Nat × SV // q.1 ≤ W ∧ nq + 1 ≤ q.2.2.1 ∧ HOk q.2.2.1 q.2.1 ∧ HExt nq hq q.2.1 ∧ StrO q.2.1 nq q.2.2.1 q.2.2.2 ((List.range q.1).map fun x => wd x y) })
    (fun q => ([(0, .ptr j o), (1, .str (S8 sep)), (2, .fn f a G b F), (7, .ptr n 0), (15, .int .i8 H), (16, .int .i8 y), (8, .int .i8 y), (9, q.1.2.2.2), (23, .int .i8 W), (24, .int .i8 q.1.1)], q.1.2.1, q.1.2.2.1)) (fun q => W - q.1.1) ⟨(0, h1, nq + 1, .sl nq 0 0 0), Nat.zero_le _, Nat.le_refl _, ok1, X1, S1⟩ ?_ ?_
  · refine Imp.id (by show n ≤ nq + 1; omega) ?_ (impH.base0 ok1 (Nat.le_refl _) HExt.rfl)
    simp only [go_sem, Nat.reduceLT]
    exact ⟨by omega, hFm _ (by omega), by omega, by omega⟩
  rintro ⟨⟨x, hx, nx, V⟩, hxW, hnx, okx, xx, Sx⟩
  simp only at hxW hnx okx xx Sx
  have Xx : HExt n hr hx := xq.tr xx (by omega)
  obtain ⟨jv, capV, ⟨sn, sc, sr, so⟩, rfl, v1, v2, v3, v4, v5, v6, v7, v8, v9⟩ := Sx
  simp only at v4 v5 v6 v9
  subst v4 v5 v6
  have hlx : ((List.range x).map fun x => wd x y).length = x := by simp
  simp only [go_sem, Nat.reduceLT, Nat.reduceLeDiff, decide_eq_true_eq, decide_eq_false_iff_not]
  refine ⟨fun hx1 => ?_, fun hx1 => ?_⟩
  · have nv3 : nx ≠ jv := by omega
    refine (hof x y (by omega) (by omega) _ _ hx nx (by omega) Xx).A ?_
    generalize hL : (List.range x).map (fun x => wd x y) = L at *
    have hL1 : (List.range (x + 1)).map (fun x => wd x y) = L ++ [wd x y] := by rw [List.range_succ, List.map_append, hL]; rfl
    simp only [go_sem, Nat.reduceLT, Nat.reduceLeDiff, v3, v2, nv3]
    refine ⟨⟨v7, v8, by omega⟩, fun cap' m1 m2 => ?_⟩
    generalize hC : upd (zrow _) 0 (SV.str (S8 (wd x y))) = C
    have hC0 : C 0 = .str (S8 (wd x y)) := by rw [← hC]; rfl
    obtain ⟨okN, exN, spN⟩ := strApp1 (n := nq) (h := hq) (nq := nx) (jv := jv) (A := L) (a := wd x y) (sc := sc) (c1 := C) (w := some (9, 1)) (by omega) okx xx v1 hC0 v9 m1 m2
    refine ⟨⟨(x + 1, _, nx + 2, .sl (nx + 1) 0 (L.length + 1) cap'), by show x + 1 ≤ W; omega, by show nq + 1 ≤ nx + 2; omega, okN, exN, by show StrO _ _ _ _ ((List.range (x + 1)).map fun x => wd x y); rw [hL1]; exact spN⟩, by show W - (x + 1) < W - x; omega, ?_⟩
    refine Imp.id (by show n ≤ nx + 2; omega) ?_ (impH.base0 okN (Nat.le_refl _) HExt.rfl)
    simp only [go_sem, Nat.reduceLT, w8 (n := (x : Int) + 1) (by omega), Int.natCast_add, Int.natCast_one]
    exact ⟨by omega, hFm _ (by omega), by omega, by omega⟩
  · have e : x = W := by omega
    subst e
    have hj2 := join_le sep 1000 ((List.range x).map fun x => wd x y) (fun a ha => by
      obtain ⟨x, _, rfl⟩ := List.mem_map.1 ha
      exact hwd x y)
    have hrl := rowL_le (wd := wd) hsep hwd hW8 y
    refine (join_Q _ _ _ jv capV ((List.range x).map fun x => wd x y) sep _ v3 v2 (Nat.le_refl _) v9 v7 (by omega) (by unfold rowL at hrl; omega)).A ?_
    have e10 : (⟨#[10]⟩ : ByteArray) = S8 [10] := rfl
    simp only [go_sem, Nat.reduceLT, Nat.reduceLeDiff, e10]
    have hrl2 : (Lib.join ((List.range x).map fun x => wd x y) sep).length ≤ 8080 := hrl
    refine ⟨by omega, callA_false (writeStr_E _ hx nx n n (linesK x sep wd y) (Lib.join ((List.range x).map fun x => wd x y) sep ++ [10]) (Bq.ext (by omega) xx) (by rw [List.length_append, List.length_singleton]; omega) (by rw [List.length_append, List.length_singleton]; omega) _ ?_)⟩
    intro h3 n3 hn3 x3 ok3 B3
    simp only [go_sem, Nat.reduceLT]
    refine ⟨⟨(y + 1, h3, n3), by show y + 1 ≤ H; omega, by show n + 1 ≤ n3; omega, ok3, Xx.tr x3 (Nat.le_refl _), B3⟩, by show H - (y + 1) < H - y; omega, ?_⟩
    refine Imp.id (by show n ≤ n3; omega) ?_ (impH.base0 ok3 (Nat.le_refl _) HExt.rfl)
    simp only [go_sem, Nat.reduceLT, w8 (n := (y : Int) + 1) (by omega), Int.natCast_add, Int.natCast_one]
    exact ⟨by omega, hFm _ (by omega), by omega⟩
end
end Go.Proofs.YtckefhnobflhcaaDoor.V

/- The texts of sheets: a cell's word, both codes: the walks. -/
namespace Go.Proofs.YtckefhnobflhcaaDoor.V
/-- A cell's word. -/
def wdS (S : Sh) (x y : Int) : List UInt8 := if waxB S x y then [119] else decL (S.wet y x).toNat ++ [58] ++ decL (S.dye y x 0).toNat ++ [44] ++ decL (S.dye y x 1).toNat ++ [44] ++ decL (S.dye y x 2).toNat
theorem wdS_len {S : Sh} (hG : Good S) {x y : Int} (hx : 0 ≤ x) (hx8 : x < 8) (hy : 0 ≤ y) (hy8 : y < 8) : (wdS S x y).length ≤ 100 := by
  have h0 := hG.dye y x 0 hy hy8 hx hx8 (by omega) (by omega)
  have h1 := hG.dye y x 1 hy hy8 hx hx8 (by omega) (by omega)
  have h2 := hG.dye y x 2 hy hy8 hx hx8 (by omega) (by omega)
  have h3 := hG.wet y x hy hy8 hx hx8
  unfold wdS
  split
  · simp
  · have a0 := decL_len (S.wet y x).toNat (by omega)
    have a1 := decL_len (S.dye y x 0).toNat (by omega)
    have a2 := decL_len (S.dye y x 1).toNat (by omega)
    have a3 := decL_len (S.dye y x 2).toNat (by omega)
    simp only [List.length_append, List.length_singleton]
    omega
section
variable (cx : Cx) (h : List (Nat × Seg)) (n : Nat)
theorem decimal_I (hT : TabOk cx) (m : Int) (h0 : 0 ≤ m) (h1 : m ≤ 100000) : CallQ Tryd.prog cx 48 [.int .i64 m] h n (.str (S8 (decL m.toNat))) := by
  obtain ⟨k, rfl⟩ := Int.eq_ofNat_of_zero_le h0
  exact decimal_Q _ _ _ hT k (by omega)
theorem decimal2_I (m : Int) (h0 : 0 ≤ m) (h1 : m ≤ 100000) : CallQ Tryd.prog cx 50 [.int .i64 m] h n (.str (S8 (decL m.toNat))) := by
  obtain ⟨k, rfl⟩ := Int.eq_ofNat_of_zero_le h0
  exact decimal2_Q _ _ _ k (by omega)
set_option maxRecDepth 20000 in
theorem word_Q (hT : TabOk cx) (jb i o : Nat) (s sb : Seg) (S : Sh) (x y : Int) (hb : hget h jb = some sb) (hbi : jb < n) (hb1 : sb.n = 1) (hb2 : sb.c 0 = .ptr i o) (hs : hget h i = some s) (hi : i < n) (hS : ShAt s o S) (hG : Good S) (hx : 0 ≤ x) (hx8 : x < 8) (hy : 0 ≤ y) (hy8 : y < 8) :
    CallQ Tryd.prog cx 47 [spot x y, .ptr jb 0] h n (.str (S8 (wdS S x y))) := by
  obtain ⟨sbn, sbc, sbr, sbo⟩ := sb
  simp only at hb1 hb2
  subst hb1
  have h0 := hG.dye y x 0 hy hy8 hx hx8 (by omega) (by omega)
  have h1 := hG.dye y x 1 hy hy8 hx hx8 (by omega) (by omega)
  have h2 := hG.dye y x 2 hy hy8 hx hx8 (by omega) (by omega)
  have h3 := hG.wet y x hy hy8 hx hx8
  have e119 : (⟨#[119]⟩ : ByteArray) = S8 [119] := rfl
  have e58 : (⟨#[58]⟩ : ByteArray) = S8 [58] := rfl
  have e44 : (⟨#[44]⟩ : ByteArray) = S8 [44] := rfl
  refine callQ_of_T (P := Tryd.prog) hti (nt := 33) (rs := [.tmp 3]) rfl rfl Tryd.call47 Tryd.func47 rfl _ (by simp only [go_sem, and_self]) (Nat.le_of_ble_eq_true rfl) _ (by first | exact trivial | (refine lt_flat rfl ?_; simp [SV.flat]; done) | simp only [go_sem]) fun hok => ?_
  simp only [go_sem, Nat.reduceLT, hb, hbi, hb2]
  refine (waxed_Q _ _ _ i o s S x y (by simp only [go_sem, hs, hi]) (by omega) hS hx hy hy8).A ?_
  cases hwx : waxB S x y
  rotate_left
  · have e : wdS S x y = [119] := by unfold wdS; rw [hwx, if_pos rfl]
    simp only [go_sem, Nat.reduceLT, e119, e]
  have e : wdS S x y = decL (S.wet y x).toNat ++ [58] ++ decL (S.dye y x 0).toNat ++ [44] ++ decL (S.dye y x 1).toNat ++ [44] ++ decL (S.dye y x 2).toNat := by unfold wdS; rw [hwx, if_neg (by simp)]
  rw [e]
  have a0 := decL_len (S.wet y x).toNat (by omega)
  have a1 := decL_len (S.dye y x 0).toNat (by omega)
  have a2 := decL_len (S.dye y x 1).toNat (by omega)
  have a3 := decL_len (S.dye y x 2).toNat (by omega)
  simp only [go_sem, Nat.reduceLT, hb, hbi, hb2]
  refine (dye_Q _ _ _ i o s S x y (by simp only [go_sem, hs, hi]) (by omega) hS hx hx8 hy hy8).A ?_
  simp only [go_sem, Nat.reduceLT, Nat.reduceEqDiff, reduceIte, hb, hbi, hb2]
  refine T_drawG hti 23 [] (.b 0 0 (.b 0 1 (.b 0 5 (.b 0 6 (.b 0 7 (.b 0 11 (.b 0 12 (.b 0 13 (.b 0 17 (.b 0 18 (.b 0 19 (.b 1 2 (.b 1 3 (.b 0 4 (.b 1 8 (.b 0 9 (.b 0 10 (.b 1 14 (.b 0 15 (.b 0 16 (.b 1 20 (.b 0 21 (.b 0 22 (.f) .o) .o) .o) .o) .o) .o) .o) .o) .o) .o) .o) .o) .o) .o) .o) .o) .o) .o) .o) .o) .o) .o) .o) _ _ (by kernel_rfl) (by kernel_rfl) ?_
  simp only [go_sem, Nat.reduceLT, Nat.reduceLeDiff, Int.reduceToNat, Int.reduceLE, Int.reduceLT, hb, hbi, hb2, w64 (n := S.dye y x 0) (by omega), w64 (n := S.dye y x 1) (by omega), w64 (n := S.dye y x 2) (by omega)]
  refine CallQ.F _ (fun h' n' hn' hx' => wet_Q _ h' n' i o s S x y (hx' i (by omega) _ (by first | (simp only [go_sem, hs, hi]; done) | (simp only [go_sem, Nat.reduceBEq, Nat.reduceLT, Nat.reduceLeDiff, Nat.reduceAdd, Nat.reduceMul, Nat.reduceSub, Nat.reduceMod, Nat.reduceDiv, Nat.reduceEqDiff, Int.reduceToNat, reduceIte, reduceCtorEq, Int.reduceLE, Int.reduceLT, Int.reduceEq, Int.reduceNeg, Int.reduceAdd, Int.reduceSub, Int.reduceMul, hs, hi]; rfl))) (by omega) hS hx hx8 hy hy8) ?_
  simp only [go_sem, Nat.reduceLT]
  refine CallQ.F _ (fun h' n' hn' hx' => decimal_I _ h' n' (hT.sub _ _) (S.wet y x) (by omega) (by omega)) ?_
  simp only [go_sem, Nat.reduceLT, Nat.reduceLeDiff, e58, List.length_append, List.length_singleton]
  refine ⟨by omega, CallQ.F _ (fun h' n' hn' hx' => decimal_I _ h' n' (hT.sub _ _) (S.dye y x 0) (by omega) (by omega)) ?_⟩
  simp only [go_sem, Nat.reduceLT, Nat.reduceLeDiff, e44, List.length_append, List.length_singleton]
  refine ⟨by omega, by omega, CallQ.F _ (fun h' n' hn' hx' => decimal_I _ h' n' (hT.sub _ _) (S.dye y x 1) (by omega) (by omega)) ?_⟩
  simp only [go_sem, Nat.reduceLT, Nat.reduceLeDiff, e44, List.length_append, List.length_singleton]
  refine ⟨by omega, by omega, CallQ.F _ (fun h' n' hn' hx' => decimal_I _ h' n' (hT.sub _ _) (S.dye y x 2) (by omega) (by omega)) ?_⟩
  simp only [go_sem, Nat.reduceLT, e44, List.length_append, List.length_singleton]
  omega
  done
set_option maxRecDepth 20000 in
theorem word2_Q (i o : Nat) (s : Seg) (S : Sh) (x y : Int) (hs : hget h i = some s) (hi : i < n) (hS : ShAt s o S) (hG : Good S) (hx : 0 ≤ x) (hx8 : x < 8) (hy : 0 ≤ y) (hy8 : y < 8) :
    CallQ Tryd.prog cx 38 [.ptr i o, spot x y] h n (.str (S8 (wdS S x y))) := by
  have h0 := hG.dye y x 0 hy hy8 hx hx8 (by omega) (by omega)
  have h1 := hG.dye y x 1 hy hy8 hx hx8 (by omega) (by omega)
  have h2 := hG.dye y x 2 hy hy8 hx hx8 (by omega) (by omega)
  have h3 := hG.wet y x hy hy8 hx hx8
  have e119 : (⟨#[119]⟩ : ByteArray) = S8 [119] := rfl
  have e58 : (⟨#[58]⟩ : ByteArray) = S8 [58] := rfl
  have e44 : (⟨#[44]⟩ : ByteArray) = S8 [44] := rfl
  have e0 := hS.dyeN 0 hy hy8 hx hx8 (by omega)
  have e1 := hS.dyeN 1 hy hy8 hx hx8 (by omega)
  have e2 := hS.dyeN 2 hy hy8 hx hx8 (by omega)
  have hl := hS.1
  simp only [Nat.add_zero, Int.natCast_zero, Int.natCast_one] at e0 e1 e2 hl
  have e2' : s.c (o + 66 + y.toNat * 24 + x.toNat * 3 + 2) = .int .i16 (S.dye y x 2) := e2
  have l0 : o + 66 + y.toNat * 24 + x.toNat * 3 ≤ s.n - 3 := by omega
  have l1 : o + 66 + y.toNat * 24 + x.toNat * 3 + 3 ≤ s.n := by omega
  have l2 : 3 ≤ s.n := by omega
  refine callQ_of_T (P := Tryd.prog) hti (nt := 49) (rs := [.tmp 4]) rfl rfl Tryd.call38 Tryd.func38 rfl _ (by simp only [go_sem, and_self]) (Nat.le_of_ble_eq_true rfl) _ (by first | exact trivial | (refine lt_flat rfl ?_; simp [SV.flat]; done) | simp only [go_sem]) fun hok => ?_
  simp only [go_sem, Nat.reduceLT]
  refine (waxed2_Q _ _ _ i o s S x y (by simp only [go_sem, hs, hi]) (by omega) hS hx (by omega) hy hy8).A ?_
  cases hwx : waxB S x y
  rotate_left
  · have e : wdS S x y = [119] := by unfold wdS; rw [hwx, if_pos rfl]
    simp only [go_sem, Nat.reduceLT, e119, e]
  have e : wdS S x y = decL (S.wet y x).toNat ++ [58] ++ decL (S.dye y x 0).toNat ++ [44] ++ decL (S.dye y x 1).toNat ++ [44] ++ decL (S.dye y x 2).toNat := by unfold wdS; rw [hwx, if_neg (by simp)]
  rw [e]
  have a0 := decL_len (S.wet y x).toNat (by omega)
  have a1 := decL_len (S.dye y x 0).toNat (by omega)
  have a2 := decL_len (S.dye y x 1).toNat (by omega)
  have a3 := decL_len (S.dye y x 2).toNat (by omega)
  simp only [go_sem]
  refine T_drawG hti 12 [11] (.b 0 0 (.b 0 1 (.b 0 2 (.b 0 3 (.b 0 4 (.b 0 5 (.b 0 6 (.b 0 7 (.b 0 8 (.b 0 9 (.b 2 10 (.b 4 11 (.f) .o) .o) .o) .o) .o) .o) .o) .o) .o) .o) .o) .o) _ _ (by kernel_rfl) (by kernel_rfl) ?_
  simp only [go_sem, Nat.reduceLT, Nat.reduceLeDiff, Nat.reduceEqDiff, reduceIte, reduceCtorEq, hs, hi, hx, hx8, hy, hy8, e0, e1, e2', l0, l1, l2]
  have ew : s.c (o + 2 + y.toNat * 8 + x.toNat) = .int .i16 (S.wet y x) := hS.wet hy hy8 hx hx8
  have l3 : o + 2 + y.toNat * 8 + x.toNat + 1 ≤ s.n := by omega
  have l4 : o + 2 + y.toNat * 8 + x.toNat < s.n := by omega
  refine T_drawG hti 31 [] (.b 0 0 (.b 0 1 (.b 0 2 (.b 0 3 (.b 0 4 (.b 0 5 (.b 0 6 (.b 0 7 (.b 0 8 (.b 0 9 (.b 0 10 (.b 0 13 (.b 0 14 (.b 0 15 (.b 0 19 (.b 0 20 (.b 0 21 (.b 0 25 (.b 0 26 (.b 0 27 (.b 1 11 (.b 0 12 (.b 1 16 (.b 0 17 (.b 0 18 (.b 1 22 (.b 0 23 (.b 0 24 (.b 1 28 (.b 0 29 (.b 0 30 (.f) .o) .o) .o) .o) .o) .o) .o) .o) .o) .o) .o) .o) .o) .o) .o) .o) .o) .o) .o) .o) .o) .o) .o) .o) .o) .o) .o) .o) .o) .o) .o) _ _ (by kernel_rfl) (by kernel_rfl) ?_
  simp only [go_sem, Nat.reduceLT, Nat.reduceLeDiff, Int.reduceToNat, reduceCtorEq, Int.reduceLE, Int.reduceLT, hs, hi, hx, hx8, hy, hy8, ew, l0, l1, l2, l3, l4, w64 (n := S.wet y x) (by omega), w64 (n := S.dye y x 0) (by omega), w64 (n := S.dye y x 1) (by omega), w64 (n := S.dye y x 2) (by omega)]
  refine CallQ.F _ (fun h' n' hn' hx' => decimal2_I _ h' n' (S.wet y x) (by omega) (by omega)) ?_
  simp only [go_sem, Nat.reduceLT, Nat.reduceLeDiff, e58, List.length_append, List.length_singleton]
  refine ⟨by omega, CallQ.F _ (fun h' n' hn' hx' => decimal2_I _ h' n' (S.dye y x 0) (by omega) (by omega)) ?_⟩
  simp only [go_sem, Nat.reduceLT, Nat.reduceLeDiff, e44, List.length_append, List.length_singleton]
  refine ⟨by omega, by omega, CallQ.F _ (fun h' n' hn' hx' => decimal2_I _ h' n' (S.dye y x 1) (by omega) (by omega)) ?_⟩
  simp only [go_sem, Nat.reduceLT, Nat.reduceLeDiff, e44, List.length_append, List.length_singleton]
  refine ⟨by omega, by omega, CallQ.F _ (fun h' n' hn' hx' => decimal2_I _ h' n' (S.dye y x 2) (by omega) (by omega)) ?_⟩
  simp only [go_sem, Nat.reduceLT, e44, List.length_append, List.length_singleton]
  omega
  done
end
end Go.Proofs.YtckefhnobflhcaaDoor.V

/- The texts of sheets, both codes: the walks. -/
namespace Go.Proofs.YtckefhnobflhcaaDoor.V
def wdN (S : Sh) (x y : Nat) : List UInt8 := if x < 8 ∧ y < 8 then wdS S x y else []
theorem wdN_len {S : Sh} (hG : Good S) (x y : Nat) : (wdN S x y).length ≤ 100 := by
  unfold wdN
  split
  · rename_i h
    exact wdS_len hG (by omega) (by omega) (by omega) (by omega)
  · simp
theorem wdN_in {S : Sh} {x y : Nat} (hx : x < 8) (hy : y < 8) : wdN S x y = wdS S x y := by unfold wdN; rw [if_pos ⟨hx, hy⟩]
/-- The text of a sheet. -/
def textS (S : Sh) : List UInt8 := linesK S.wide.toNat [32] (wdN S) S.high.toNat
theorem textS_len {S : Sh} (hV : Valid S) : (textS S).length ≤ 100000 := by
  have hsm := hV.1
  unfold Small at hsm
  have := linesK_le (W := S.wide.toNat) (sep := [32]) (wd := wdN S) (by simp) (fun x y => by have := wdN_len hV.good x y; omega) (by omega) S.high.toNat
  unfold textS
  omega
theorem join_snoc (L : List (List UInt8)) (a sep : List UInt8) : Lib.join (L ++ [a]) sep = if L = [] then a else Lib.join L sep ++ sep ++ a := by
  cases L with
  | nil => simp [Lib.join_cons, Lib.joinTail]
  | cons b L =>
    rw [List.cons_append, Lib.join_cons, Lib.join_cons, if_neg (by simp)]
    simp [Lib.joinTail]
section
variable (cx : Cx) (h : List (Nat × Seg)) (n : Nat)
theorem lines_QT (hT : TabOk cx) (j o : Nat) (sg : Seg) (W H : Nat) (sep : List UInt8) (f a b : Nat) (G F : Nat → SV) (wd : Nat → Nat → List UInt8)
    (hs : hget h j = some sg) (hj : j < n) (ho : o + 2 ≤ sg.n) (hw : sg.c o = .int .i8 W) (hh : sg.c (o + 1) = .int .i8 H) (w1 : 1 ≤ W) (hW8 : W ≤ 8) (h1 : 1 ≤ H) (h8 : H ≤ 8) (hsep : sep.length ≤ 10) (hwd : ∀ x y, (wd x y).length ≤ 1000) (hF : (SV.fn f a G b F).lt n)
    (hof : ∀ (x y : Nat), x < W → y < H → ∀ (w0 : World), TabOk ⟨w0, Noth, 0, n⟩ → ∀ (nt n0 : Nat) (h' : List (Nat × Seg)) (n' : Nat), n ≤ n' → HExt n (ro h) h' → CallQ Tryd.prog ⟨w0, Noth, nt, n0⟩ f (lst a G ++ [spot x y] ++ lst b F) h' n' (.str (S8 (wd x y)))) :
    CallQ Tryd.prog cx 46 [.ptr j o, .str (S8 sep), .fn f a G b F] h n (.str (S8 (linesK W sep wd H))) :=
  callQ_freshT hT trivial Tryd.call46 (by simp only [go_sem, and_self]) fun w0 hw0 => lines_E h n w0 j o sg W H sep f a b G F wd hs hj ho hw hh w1 hW8 h1 h8 hsep hwd hF fun x y hx hy => hof x y hx hy w0 hw0
theorem text_Q (hT : TabOk cx) (i o : Nat) (s : Seg) (S : Sh) (hs : hget h i = some s) (hi : i < n) (hS : ShAt s o S) (hV : Valid S) :
    CallQ Tryd.prog cx 23 [.ptr i o] h n (.str (S8 (textS S))) := by
  have hsm := hV.1
  unfold Small at hsm
  have hw := hS.wide
  have hh := hS.high
  obtain ⟨W, hW⟩ : ∃ W : Nat, S.wide = W := ⟨S.wide.toNat, by omega⟩
  obtain ⟨H, hH⟩ : ∃ H : Nat, S.high = H := ⟨S.high.toNat, by omega⟩
  rw [hW] at hw
  rw [hH] at hh
  have e : textS S = linesK W [32] (wdN S) H := by unfold textS; rw [hW, hH]; rfl
  have e32 : (⟨#[32]⟩ : ByteArray) = S8 [32] := rfl
  rw [e]
  refine callQ_of_T (P := Tryd.prog) hti (nt := 6) (rs := [.tmp 2]) rfl rfl Tryd.call23 Tryd.func23 rfl _ (by simp only [go_sem, and_self]) (Nat.le_of_ble_eq_true rfl) _ (by first | exact trivial | (refine lt_flat rfl ?_; simp [SV.flat]; done) | simp only [go_sem]) fun hok => ?_
  simp only [go_sem, Nat.reduceLT]
  rw [e32]
  have hgi : hget ((n, ⟨1, cl [.ptr i o], true, none⟩) :: h) i = some s := (by first | (simp only [go_sem, hs, hi]; done) | (simp only [go_sem, Nat.reduceBEq, Nat.reduceLT, Nat.reduceLeDiff, Nat.reduceAdd, Nat.reduceMul, Nat.reduceSub, Nat.reduceMod, Nat.reduceDiv, Nat.reduceEqDiff, Int.reduceToNat, reduceIte, reduceCtorEq, Int.reduceLE, Int.reduceLT, Int.reduceEq, Int.reduceNeg, Int.reduceAdd, Int.reduceSub, Int.reduceMul, hs, hi]; rfl))
  refine (lines_QT _ _ _ (hT.sub _ _) i o s W H [32] 47 0 1 (cl []) (cl [.ptr n 0]) (wdN S) hgi (by omega) (by have := hS.1; omega) hw hh (by omega) (by omega) (by omega) (by omega) (by simp) (fun x y => by have := wdN_len hV.good x y; omega) ⟨fun j hj => absurd hj (Nat.not_lt_zero j), fun j hj => ?_⟩ fun x y hx hy w0 hw0 nt n0 h' n' hn' hx' => ?_).A ?_
  · have hj : j < 1 := hj
    match j with
    | 0 => show n < n + 1; omega
    | j + 1 => omega
  · rw [wdN_in (by omega) (by omega)]
    exact word_Q _ h' n' (hw0.sub _ _) n i o (roS s) _ S x y (hx' n (by omega) _ (ro_some (hget_hit _ _ _))) (by omega) rfl rfl (hx' i (by omega) _ (ro_some hgi)) (by omega) hS hV.good (by omega) (by omega) (by omega) (by omega)
  · simp only [go_sem, Nat.reduceLT]
theorem text2_Q (i o : Nat) (s : Seg) (S : Sh) (hs : hget h i = some s) (hi : i < n) (hS : ShAt s o S) (hV : Valid S) :
    CallQ Tryd.prog cx 18 [.ptr i o] h n (.str (S8 (textS S))) := by
  have hsm := hV.1
  unfold Small at hsm
  have hw := hS.wide
  have hh := hS.high
  have hn := hS.1
  obtain ⟨W, hW⟩ : ∃ W : Nat, S.wide = W := ⟨S.wide.toNat, by omega⟩
  obtain ⟨H, hH⟩ : ∃ H : Nat, S.high = H := ⟨S.high.toNat, by omega⟩
  rw [hW] at hw
  rw [hH] at hh
  have e : textS S = linesK W [32] (wdN S) H := by unfold textS; rw [hW, hH]; rfl
  have e32 : (⟨#[32]⟩ : ByteArray) = S8 [32] := rfl
  have e10 : (⟨#[10]⟩ : ByteArray) = S8 [10] := rfl
  have e0 : (⟨#[]⟩ : ByteArray) = S8 [] := rfl
  have b1 : o ≤ s.n - 1 := by omega
  have b2 : o + 1 ≤ s.n - 1 := by omega
  have b3 : 1 ≤ s.n := by omega
  have b4 : o + 1 ≤ s.n := by omega
  have b5 : o + 1 + 1 ≤ s.n := by omega
  have b6 : o < s.n := by omega
  have b7 : o + 1 < s.n := by omega
  rw [e]
  have hwd : ∀ x y, (wdN S x y).length ≤ 1000 := fun x y => by have := wdN_len hV.good x y; omega
  have hJ : ∀ y x : Nat, (Lib.join ((List.range x).map fun x => wdN S x y) [32]).length ≤ x * 1001 := fun y x => by
    have := join_le [32] 1000 ((List.range x).map fun x => wdN S x y) (fun a ha => by
      obtain ⟨x, _, rfl⟩ := List.mem_map.1 ha
      exact hwd x y)
    rw [List.length_map, List.length_range] at this
    exact this
  refine callQ_of_T (P := Tryd.prog) hti (nt := 36) (rs := [.tmp 2]) rfl rfl Tryd.call18 Tryd.func18 rfl _ (by simp only [go_sem, and_self]) (Nat.le_of_ble_eq_true rfl) _ (by first | exact trivial | (refine lt_flat rfl ?_; simp [SV.flat]; done) | simp only [go_sem]) fun hok => ?_
  simp only [go_sem, Nat.reduceLT]
  refine T_lp (ι := { q : Nat // q ≤ H }) (fun q => ([(0, .ptr i o), (3, .str (S8 (linesK W [32] (wdN S) q.1))), (4, .int .i8 q.1)], h, n)) (fun q => H - q.1) ⟨0, Nat.zero_le _⟩ ?_ ?_
  · refine Imp.id (by simp) ?_ (impH.base0 hok (by simp) HExt.rfl)
    simp only [go_sem, Nat.reduceLT, e0, linesK]
    exact hi
  rintro ⟨y, hy⟩
  have hll := linesK_le (W := W) (sep := [32]) (wd := wdN S) (by simp) hwd (by omega) y
  simp only [go_sem, Nat.reduceLT, reduceCtorEq, hs, hi, hh, b1, b2, b3, b4, b5, b6, b7, decide_eq_true_eq, decide_eq_false_iff_not]
  refine ⟨fun h1 => ?_, fun h1 => ?_⟩
  rotate_left
  · have e : y = H := by omega
    subst e
    rfl
  refine T_lp (ι := { q : Nat // q ≤ W }) (fun q => ([(0, .ptr i o), (3, .str (S8 (linesK W [32] (wdN S) y ++ Lib.join ((List.range q.1).map fun x => wdN S x y) [32]))), (4, .int .i8 y), (5, .int .i8 q.1)], h, n)) (fun q => W - q.1) ⟨0, Nat.zero_le _⟩ ?_ ?_
  · refine Imp.id (by simp) ?_ (impH.base0 hok (by simp) HExt.rfl)
    simp only [go_sem, Nat.reduceLT, List.range_zero, List.map_nil, Lib.join_nil, List.append_nil]
    exact hi
  rintro ⟨x, hx⟩
  have hJx := hJ y x
  have hsn := join_snoc ((List.range x).map fun x => wdN S x y) (wdN S x y) [32]
  have l32 : ([32] : List UInt8).length = 1 := rfl
  have s32 : (#[32] : Array UInt8).size = 1 := rfl
  have s10 : (#[10] : Array UInt8).size = 1 := rfl
  have l10 : ([10] : List UInt8).length = 1 := rfl
  have hwx := hwd x y
  simp only [go_sem, Nat.reduceLT, Nat.reduceLeDiff, reduceCtorEq, hs, hi, hw, b1, b2, b3, b4, b5, b6, b7, decide_eq_true_eq, decide_eq_false_iff_not]
  refine ⟨fun h2 => ?_, fun h2 => ?_⟩
  · have hwq := word2_Q ⟨cx.w0, cx.W, 36, n⟩ h n i o s S x y hs hi hS hV.good (by omega) (by omega) (by omega) (by omega)
    rw [← wdN_in (by omega) (by omega)] at hwq
    by_cases hx0 : x = 0
    · subst hx0
      have hz : decide ((0 : Int) < ((0 : Nat) : Int)) = false := by simp
      simp only [go_sem, Int.reduceLT, hz]
      refine hwq.A ?_
      have hj1 : Lib.join [wdN S 0 y] [32] = wdN S 0 y := by simp [Lib.join_cons, Lib.joinTail]
      have hj0 : Lib.join (List.map (fun x => wdN S x y) (List.range 0)) [32] = [] := rfl
      simp only [go_sem, Nat.reduceLT, Int.reduceLE, Int.reduceLT, Int.reduceNeg, Int.reduceAdd, List.length_append, hj0, List.append_nil]
      refine ⟨by have : ([] : List UInt8).length = 0 := rfl; omega, ⟨0 + 1, by omega⟩, by show W - (0 + 1) < W - 0; omega, ?_⟩
      refine Imp.id (by simp) ?_ (impH.base0 hok (by simp) HExt.rfl)
      simp only [go_sem, Nat.reduceLT, hj1]
      exact ⟨hi, by simp [hj1]⟩
    · rw [if_neg (by simp; omega)] at hsn
      simp only [go_sem, e32, List.length_append, List.length_singleton]
      refine ⟨fun _ => ⟨by omega, hwq.A ?_⟩, fun hz => absurd (show (0 : Int) < x by omega) hz⟩
      simp only [go_sem, Nat.reduceLT, List.length_append, List.length_singleton]
      refine ⟨by omega, ⟨x + 1, by omega⟩, by show W - (x + 1) < W - x; omega, ?_⟩
      refine Imp.id (by simp) ?_ (impH.base0 hok (by simp) HExt.rfl)
      simp only [go_sem, Nat.reduceLT, hsn, List.append_assoc, List.cons_append, List.nil_append, w8 (n := (x : Int) + 1) (by omega), Int.natCast_add, Int.natCast_one]
      exact ⟨hi, by simp [List.range_succ, hsn]⟩
  · have e : x = W := by omega
    subst e
    have hrow : linesK x [32] (wdN S) (y + 1) = linesK x [32] (wdN S) y ++ (Lib.join ((List.range x).map fun x => wdN S x y) [32] ++ [10]) := rfl
    simp only [go_sem, e10, List.length_append, List.length_singleton]
    refine ⟨by omega, ⟨y + 1, by omega⟩, by show H - (y + 1) < H - y; omega, ?_⟩
    refine Imp.id (by simp) ?_ (impH.base0 hok (by simp) HExt.rfl)
    simp only [go_sem, Nat.reduceLT, hrow, List.append_assoc, w8 (n := (y : Int) + 1) (by omega), Int.natCast_add, Int.natCast_one]
    exact hi
end
end Go.Proofs.YtckefhnobflhcaaDoor.V

/- SheetText and StackText: both codes and the laws: the walks. -/
namespace Go.Proofs.YtckefhnobflhcaaDoor.V
section
variable (cx : Cx) (h : List (Nat × Seg)) (n : Nat)
end
end Go.Proofs.YtckefhnobflhcaaDoor.V

/- StackText: both codes and the law: the walks. -/
namespace Go.Proofs.YtckefhnobflhcaaDoor.V
noncomputable def stText (L : List Sh) : List UInt8 := if stokB L then Lib.join (L.map textS) [10] else []
theorem stT_le (L : List Sh) (hV : ∀ q, q < L.length → Valid (L.getD q sh0)) (k : Nat) (hk : k ≤ L.length) : (Lib.join ((L.take k).map textS) [10]).length ≤ k * 100001 := by
  have := join_le [10] 100000 ((L.take k).map textS) (fun a ha => by
    obtain ⟨S, hS, rfl⟩ := List.mem_map.1 ha
    obtain ⟨q, hq, rfl⟩ := List.mem_iff_getElem.1 hS
    have hq' : q < L.length := by rw [List.length_take] at hq; omega
    have := hV q hq'
    rw [List.getD_eq_getElem?_getD, List.getElem?_eq_getElem hq'] at this
    rw [List.getElem_take]
    exact textS_len this)
  rw [List.length_map, List.length_take, Nat.min_eq_left hk] at this
  exact this
theorem take_snoc (L : List Sh) {k : Nat} (hk : k < L.length) : (L.take (k + 1)).map textS = (L.take k).map textS ++ [textS (L.getD k sh0)] := by
  rw [List.take_succ, List.getElem?_eq_getElem hk, List.map_append, List.getD_eq_getElem?_getD, List.getElem?_eq_getElem hk]; rfl
section
variable (cx : Cx) (h : List (Nat × Seg)) (n : Nat)
set_option maxRecDepth 10000 in
theorem stackText_Q (hT : TabOk cx) (A : SV) (L : List Sh) (hA : StArg h n A L) (hLR : StR L) (hm9 : L.length ≤ 10000000) : CallQ Tryd.prog cx 15 [A] h n (.str (S8 (stText L))) := by
  have e0 : (⟨#[]⟩ : ByteArray) = S8 [] := rfl
  have e10 : (⟨#[10]⟩ : ByteArray) = S8 [10] := rfl
  have hA0 := hA
  rcases hA with ⟨rfl, rfl⟩ | ⟨i, cap, s, rfl, hi, hs, hL⟩
  · have hst : stokB ([] : List Sh) = true := by simp [stokB, StOk]
    have e : stText [] = [] := by unfold stText; rw [hst]; rfl
    rw [e]
    refine callQ_of_T (P := Tryd.prog) hti (nt := 23) (rs := [.tmp 2]) rfl rfl Tryd.call15 Tryd.func15 rfl _ (by simp only [go_sem, and_self]) (Nat.le_of_ble_eq_true rfl) _ (by first | exact trivial | (refine lt_flat rfl ?_; simp [SV.flat]; done) | simp only [go_sem]) fun hok => ?_
    simp only [go_sem, Nat.reduceLT]
    refine (validStack_Q _ _ _ .nils [] hA0 hLR hm9).A ?_
    simp only [go_sem, Nat.reduceLT, hst]
    refine T_unroll 0 ?_
    simp only [go_sem, Nat.reduceLT, Int.reduceLT]
    rw [e10]
    refine (join_Q _ _ _ n 0 [] [10] _ (hget_hit _ _ _) (by omega) (Nat.zero_le _) (fun k hk => absurd hk (Nat.not_lt_zero k)) (Nat.zero_le _) (by simp) (by simp [Lib.join_nil])).A ?_
    simp only [go_sem, Nat.reduceLT, Lib.join_nil]
  · refine callQ_of_T (P := Tryd.prog) hti (nt := 23) (rs := [.tmp 2]) rfl rfl Tryd.call15 Tryd.func15 rfl _ (by simp only [go_sem, and_self]) (Nat.le_of_ble_eq_true rfl) _ (by first | exact trivial | (refine lt_flat rfl ?_; simp [SV.flat]; done) | simp only [go_sem]) fun hok => ?_
    simp only [go_sem, Nat.reduceLT]
    refine (validStack_Q _ _ _ _ L hA0 hLR hm9).A ?_
    by_cases hk : stokB L = true
    rotate_left
    · have e : stText L = [] := by unfold stText; rw [if_neg hk]
      have hk : stokB L = false := by simpa using hk
      rw [e, hk]
      simp only [go_sem, Nat.reduceLT, e0]
    have e : stText L = Lib.join (L.map textS) [10] := by unfold stText; rw [if_pos hk]
    have hokL : StOk L := by simpa [stokB] using hk
    have hl6 := hokL.1
    rw [e]
    simp only [go_sem, Nat.reduceLT, hk]
    generalize zrow _ = Z
    have ok1 : HOk (n + 1) ((n, ⟨0, Z, true, some (9, 0)⟩) :: h) := fun i t hi => by
      simp only [hget] at hi
      split at hi
      · rename_i e; cases hi
        exact ⟨by omega, fun k hk => absurd hk (Nat.not_lt_zero k)⟩
      · exact ⟨by have := (hok i t hi).1; omega, fun k hk => SV.lt_mono (by omega) _ ((hok i t hi).2 k hk)⟩
    have X1 : HExt n h ((n, ⟨0, Z, true, some (9, 0)⟩) :: h) := fun z hz t ht => by simp only [hget]; rw [if_neg (by omega)]; exact ht
    have S1 : StrO ((n, ⟨0, Z, true, some (9, 0)⟩) :: h) n (n + 1) (.sl n 0 0 0) [] := ⟨n, 0, _, rfl, Nat.le_refl _, by omega, hget_hit _ _ _, rfl, rfl, rfl, Nat.le_refl _, Nat.zero_le _, fun k hk => absurd hk (Nat.not_lt_zero k)⟩
    generalize ((n, (⟨0, Z, true, some (9, 0)⟩ : Seg)) :: h) = h1 at *
    refine T_lp (ι := { q : Nat × List (Nat × Seg) × Nat × SV // q.1 ≤ L.length ∧ n + 1 ≤ q.2.2.1 ∧ HOk q.2.2.1 q.2.1 ∧ HExt n h q.2.1 ∧ StrO q.2.1 n q.2.2.1 q.2.2.2 ((L.take q.1).map textS) })
      (fun q => ([(0, .sl i 0 L.length cap), (3, q.1.2.2.2), (10, .sl i 0 L.length cap), (11, .int .i64 L.length), (12, .int .i64 q.1.1)], q.1.2.1, q.1.2.2.1)) (fun q => L.length - q.1.1) ⟨(0, h1, n + 1, .sl n 0 0 0), Nat.zero_le _, Nat.le_refl _, ok1, X1, S1⟩ ?_ ?_
    · refine Imp.id (by show n ≤ n + 1; omega) ?_ (impH.base0 ok1 (Nat.le_refl _) HExt.rfl)
      simp only [go_sem, Nat.reduceLT]
      exact ⟨by omega, by omega⟩
    rintro ⟨⟨q, hq, nq, V⟩, hqL, hnq, okq, xq, Sq⟩
    simp only at hqL hnq okq xq Sq
    obtain ⟨jv, capV, ⟨sn, sc, sr, so⟩, rfl, v1, v2, v3, v4, v5, v6, v7, v8, v9⟩ := Sq
    simp only at v4 v5 v6 v9
    subst v4 v5 v6
    have hlq : ((L.take q).map textS).length = q := by rw [List.length_map, List.length_take]; omega
    have hsq := xq i hi _ hs
    have hiq : i < nq := by omega
    simp only [go_sem, Nat.reduceLT, decide_eq_true_eq, decide_eq_false_iff_not]
    refine ⟨fun hq1 => ?_, fun hq1 => ?_⟩
    rotate_left
    · have eq1 : q = L.length := by omega
      subst eq1
      have htl := stT_le L (fun q hq => (hokL.2 q hq).1) L.length (Nat.le_refl _)
      simp only [List.take_length] at htl v3 v7 v9 hlq
      rw [e10]
      have hj := join_Q ⟨cx.w0, cx.W, 23, n⟩ hq nq jv capV (L.map textS) [10] _ v3 v2 (Nat.le_refl _) v9 v7 (by omega) (by omega)
      simp only [List.take_length]
      refine hj.A ?_
      simp only [go_sem, Nat.reduceLT]
      exact xq
    have hql : q < L.length := by omega
    have hAq := hL.sh hLR hql
    have hV := (hokL.2 q hql).1
    have b1 : (0 : Int) ≤ q ∧ (q : Int) < L.length := ⟨by omega, by omega⟩
    have b2 : q * 266 ≤ s.n - 266 := by have := hAq.1; omega
    have b3 : 266 ≤ s.n := by have := hAq.1; omega
    have b4 : q * 266 + 266 ≤ s.n := hAq.1
    have b5 : q * 266 ≤ 4294967296 := by omega
    have hin : nq ≠ i := by omega
    simp only [go_sem, Nat.reduceLT, Nat.reduceEqDiff, reduceIte, hsq, hiq, b1, b2, b3, b4, b5, hin]
    have hfl : ∀ j, j < 266 → (s.c (q * 266 + j)).flat := fun j hj => by rw [hL.2 _ (by omega)]; exact stC_flat _ _
    have hF : ShAt ⟨266, fun j => s.c (q * 266 + j), true, none⟩ 0 (L.getD q sh0) := ⟨Nat.le_refl _, by
      have := hAq.2
      simpa using this⟩
    refine ⟨fun j hj => (hfl j hj).one, ?_⟩
    refine (text_Q _ _ _ (hT.sub _ _) nq 0 _ (L.getD q sh0) (hget_hit _ _ _) (by omega) hF hV).A ?_
    have okb : HOk (nq + 1) ((nq, ⟨266, fun j => s.c (q * 266 + j), true, none⟩) :: hq) := fun i t hi => by
      simp only [hget] at hi
      split at hi
      · rename_i e; cases hi
        exact ⟨by omega, fun k hk => (hfl k hk).below _⟩
      · exact ⟨by have := (okq i t hi).1; omega, fun k hk => SV.lt_mono (by omega) _ ((okq i t hi).2 k hk)⟩
    have xb : HExt n h ((nq, ⟨266, fun j => s.c (q * 266 + j), true, none⟩) :: hq) := fun z hz t ht => by simp only [hget]; rw [if_neg (by omega)]; exact xq z hz t ht
    have v3b : hget ((nq, ⟨266, fun j => s.c (q * 266 + j), true, none⟩) :: hq) jv = some ⟨((L.take q).map textS).length, sc, true, some (9, capV)⟩ := by simp only [hget]; rw [if_neg (by omega)]; exact v3
    have v2b : jv < nq + 1 := by omega
    have nv3 : nq + 1 ≠ jv := by omega
    have hts := take_snoc L hql
    have v1b : n ≤ jv := v1
    have v9b := v9
    have v7b := v7
    have v8b := v8
    generalize (L.take q).map textS = LL at *
    generalize ((nq, (⟨266, fun j => s.c (q * 266 + j), true, none⟩ : Seg)) :: hq) = hb at *
    simp only [go_sem, Nat.reduceLT, Nat.reduceLeDiff, v3b, v2b, nv3]
    refine ⟨⟨v7b, v8b, by omega⟩, fun cap' m1 m2 => ?_⟩
    generalize hC : upd (zrow _) 0 (SV.str (S8 (textS (L.getD q sh0)))) = C
    have hC0 : C 0 = .str (S8 (textS (L.getD q sh0))) := by rw [← hC]; rfl
    obtain ⟨okN, exN, spN⟩ := strApp1 (n := n) (h := h) (nq := nq + 1) (jv := jv) (A := LL) (a := textS (L.getD q sh0)) (sc := sc) (c1 := C) (w := some (9, 1)) (by omega) okb xb v1b hC0 v9b m1 m2
    refine ⟨⟨(q + 1, _, nq + 1 + 2, .sl (nq + 1 + 1) 0 (LL.length + 1) cap'), by show q + 1 ≤ L.length; omega, by show n + 1 ≤ nq + 1 + 2; omega, okN, exN, by show StrO _ _ _ _ ((L.take (q + 1)).map textS); rw [hts]; exact spN⟩, by show L.length - (q + 1) < L.length - q; omega, ?_⟩
    refine Imp.id (by show n ≤ nq + 1 + 2; omega) ?_ (impH.base0 okN (Nat.le_refl _) HExt.rfl)
    simp only [go_sem, Nat.reduceLT, w64 (n := (q : Int) + 1) (by omega), Int.natCast_add, Int.natCast_one]
    exact ⟨by omega, by omega, by omega⟩
set_option maxRecDepth 20000 in
theorem l05Text_Q (A : SV) (L : List Sh) (hA : StArg h n A L) (hLR : StR L) (hokL : StOk L) : CallQ Tryd.prog cx 30 [A] h n (.str (S8 (Lib.join (L.map textS) [10]))) := by
  have e0 : (⟨#[]⟩ : ByteArray) = S8 [] := rfl
  have e10 : (⟨#[10]⟩ : ByteArray) = S8 [10] := rfl
  have s10 : (#[10] : Array UInt8).size = 1 := rfl
  have hl6 := hokL.1
  rcases hA with ⟨rfl, rfl⟩ | ⟨i, cap, s, rfl, hi, hs, hL⟩
  · refine callQ_of_T (P := Tryd.prog) hti (nt := 22) (rs := [.tmp 2]) rfl rfl Tryd.call30 Tryd.func30 rfl _ (by simp only [go_sem, and_self]) (Nat.le_of_ble_eq_true rfl) _ (by first | exact trivial | (refine lt_flat rfl ?_; simp [SV.flat]; done) | simp only [go_sem]) fun hok => ?_
    simp only [go_sem, Nat.reduceLT]
    refine T_unroll 0 ?_
    simp only [go_sem, Nat.reduceLT, Int.reduceLT]
    rfl
  · refine callQ_of_T (P := Tryd.prog) hti (nt := 22) (rs := [.tmp 2]) rfl rfl Tryd.call30 Tryd.func30 rfl _ (by simp only [go_sem, and_self]) (Nat.le_of_ble_eq_true rfl) _ (by first | exact trivial | (refine lt_flat rfl ?_; simp [SV.flat]; done) | simp only [go_sem]) fun hok => ?_
    simp only [go_sem, Nat.reduceLT]
    refine T_lp (ι := { q : Nat // q ≤ L.length }) (fun q => ([(0, .sl i 0 L.length cap), (3, .str (S8 (Lib.join ((L.take q.1).map textS) [10]))), (4, .int .i64 q.1)], h, n)) (fun q => L.length - q.1) ⟨0, Nat.zero_le _⟩ ?_ ?_
    · refine Imp.id (by simp) ?_ (impH.base0 hok (by simp) HExt.rfl)
      simp only [go_sem, Nat.reduceLT, e0]
      exact ⟨hi, rfl⟩
    rintro ⟨q, hqL⟩
    have htl := stT_le L (fun q hq => (hokL.2 q hq).1) q hqL
    simp only [go_sem, Nat.reduceLT, decide_eq_true_eq, decide_eq_false_iff_not]
    refine ⟨fun hq1 => ?_, fun hq1 => ?_⟩
    rotate_left
    · have eq1 : q = L.length := by omega
      subst eq1
      simp only [List.take_length]
    have hql : q < L.length := by omega
    have hAq := hL.sh hLR hql
    have hV := (hokL.2 q hql).1
    have b1 : (0 : Int) ≤ q ∧ (q : Int) < L.length := ⟨by omega, by omega⟩
    have b2 : q * 266 ≤ s.n - 266 := by have := hAq.1; omega
    have b3 : 266 ≤ s.n := by have := hAq.1; omega
    have htx := text2_Q ⟨cx.w0, cx.W, 22, n⟩ h n i (q * 266) s (L.getD q sh0) hs hi hAq hV
    have hlt := textS_len hV
    have hsn := join_snoc ((L.take q).map textS) (textS (L.getD q sh0)) [10]
    rw [← take_snoc L hql] at hsn
    by_cases hq0 : q = 0
    · subst hq0
      have hj1 : Lib.join ((L.take (0 + 1)).map textS) [10] = textS (L.getD 0 sh0) := by rw [hsn]; rfl
      have hz : decide ((0 : Int) < ((0 : Nat) : Int)) = false := by simp
      have hl0 : (0 : Int) < L.length := by omega
      have hj0 : Lib.join (List.map textS []) [10] = [] := rfl
      simp only [Nat.zero_mul] at htx
      simp only [go_sem, Nat.reduceMul, Int.reduceLE, Int.reduceLT, hz]
      refine ⟨hl0, htx.A ?_⟩
      simp only [go_sem, Nat.reduceLT, Int.reduceLE, Int.reduceLT, Int.reduceNeg, Int.reduceAdd, hj0, List.append_nil, List.length_nil]
      refine ⟨by omega, ⟨0 + 1, by omega⟩, by show L.length - (0 + 1) < L.length - 0; omega, ?_⟩
      refine Imp.id (by simp) ?_ (impH.base0 hok (by simp) HExt.rfl)
      simp only [go_sem, Nat.reduceLT, hj1]
      exact ⟨hi, by simp [hj1]⟩
    · rw [if_neg (by cases L with | nil => simp at hql | cons a L => (cases q with | zero => exact absurd rfl hq0 | succ q => simp))] at hsn
      simp only [go_sem, e10, List.length_append, List.length_singleton]
      refine ⟨fun _ => ⟨by omega, b1, htx.A ?_⟩, fun hz => absurd (show (0 : Int) < q by omega) hz⟩
      simp only [go_sem, Nat.reduceLT, List.length_append, List.length_singleton]
      refine ⟨by omega, ⟨q + 1, by omega⟩, by show L.length - (q + 1) < L.length - q; omega, ?_⟩
      refine Imp.id (by simp) ?_ (impH.base0 hok (by simp) HExt.rfl)
      simp only [go_sem, Nat.reduceLT, w64 (n := (q : Int) + 1) (by omega), Int.natCast_add, Int.natCast_one]
      exact ⟨hi, by rw [hsn, List.append_assoc]⟩
theorem stackText2_Q (A : SV) (L : List Sh) (hA : StArg h n A L) (hLR : StR L) (hm9 : L.length ≤ 10000000) : CallQ Tryd.prog cx 13 [A] h n (.str (S8 (stText L))) := by
  have e0 : (⟨#[]⟩ : ByteArray) = S8 [] := rfl
  have hAo := hA.ok
  refine callQ_of_T (P := Tryd.prog) hti (nt := 8) (rs := [.tmp 2]) rfl rfl Tryd.call13 Tryd.func13 rfl _ (by first | (simp only [go_sem, hAo]; done) | (simp only [go_sem, hAo, hBo]; done)) (Nat.le_of_ble_eq_true rfl) _ (by trivial) fun hok => ?_
  simp only [go_sem, Nat.reduceLT, hAo]
  refine (stok2_Q _ _ _ A L hA hLR hm9).A ?_
  by_cases hk : stokB L = true
  · have e : stText L = Lib.join (L.map textS) [10] := by unfold stText; rw [if_pos hk]
    have hokL : StOk L := by simpa [stokB] using hk
    rw [e]
    simp only [go_sem, Nat.reduceLT, hAo, hk]
    refine (l05Text_Q _ _ _ A L hA hLR hokL).A ?_
    simp only [go_sem, Nat.reduceLT, hAo]
  · have e : stText L = [] := by unfold stText; rw [if_neg hk]
    have hk : stokB L = false := by simpa using hk
    rw [e]
    simp only [go_sem, Nat.reduceLT, hAo, hk, e0]
theorem lawStackText_Q (hT : TabOk cx) (A : SV) (L : List Sh) (hA : StArg h n A L) (hLR : StR L) (hm : L.length ≤ 9223372036854775807) :
    CallQ Tryd.prog cx 5 [A] h n (.bool true) := by
  have hAo := hA.ok
  refine callQ_of_T (P := Tryd.prog) hti (nt := 27) (rs := [.tmp 2]) rfl rfl Tryd.call5 Tryd.func5 rfl _ (by first | (simp only [go_sem, hAo]; done) | (simp only [go_sem, hAo, hBo]; done)) (Nat.le_of_ble_eq_true rfl) _ (by trivial) fun hok => ?_
  simp only [go_sem, Nat.reduceLT, hAo]
  refine (szStack_Q _ _ _ A L hA 1048576 (by omega) (by omega)).A ?_
  by_cases hs : 1048576 - (L.length : Int) < 0
  · simp only [go_sem, Nat.reduceLT, reduceIte, Int.reduceLT, Int.reduceNeg, hAo, hs]
  have hm9 : L.length ≤ 10000000 := by omega
  simp only [go_sem, Nat.reduceLT, reduceIte, Int.reduceNeg, hAo, hs]
  refine callA_false (toStack_E _ _ _ A L hA hLR hm9 _ ?_)
  simp only [go_sem, Nat.reduceLT, hAo]
  refine (stackText2_Q _ _ _ (.sl n 0 L.length L.length) L (.inr ⟨n, L.length, _, rfl, by omega, hget_hit _ _ _, Nat.le_refl _, fun _ _ => rfl⟩) hLR hm9).A ?_
  simp only [go_sem, Nat.reduceLT, hAo]
  refine callA_false (toStack_E _ _ _ A L (hA.ext (by omega) (by simp only [go_sem, HExt_cons])) hLR hm9 _ ?_)
  simp only [go_sem, Nat.reduceLT, hAo]
  refine (stackText_Q _ _ _ (hT.sub _ _) (.sl (n + 1) 0 L.length L.length) L (.inr ⟨n + 1, L.length, _, rfl, by omega, hget_hit _ _ _, Nat.le_refl _, fun _ _ => rfl⟩) hLR hm9).A ?_
  simp only [go_sem, Nat.reduceLT, hAo]
  refine callA_false (toStack_E _ _ _ A L (hA.ext (by omega) (by simp only [go_sem, HExt_cons])) hLR hm9 _ ?_)
  simp only [go_sem, Nat.reduceLT, hAo]
  refine (eqStack_Q _ _ _ (n + 1) L.length (n + 2) L.length L _ _ (by first | (simp only [go_sem, Nat.reduceLT]; done) | (simp only [go_sem, Nat.reduceLT]; rfl)) (by omega) ⟨Nat.le_refl _, fun _ _ => rfl⟩ (hget_hit _ _ _) (by omega) ⟨Nat.le_refl _, fun _ _ => rfl⟩ hLR hm9).A ?_
  simp only [go_sem, Nat.reduceLT, hAo]
  done
end
end Go.Proofs.YtckefhnobflhcaaDoor.V

/- What the row's condition on the laid tables gives the walks; a world that meets it. -/
namespace Go.Proofs.YtckefhnobflhcaaDoor.V
open Go.ChangeShapes Go.WideShapes Go.ChangeAt Go.WideElems Go.RowKit
theorem gPow : Tryd.prog.globalNamed "internal/strconv.uint64pow10" = some 1 := by kernel_rfl
theorem tabIs_of {W : World} {a b : String × DataW Unit} {r : List (String × DataW Unit)} (h : laidMet Tryd.prog (a :: b :: ("internal/strconv.uint64pow10", Rows.laid_internal_strconv_uint64pow10) :: r) W) : Lib.TabIs Tryd.prog W "internal/strconv.uint64pow10" .u64 Lib.pow10Tab := by
  have h2 := (laidMet.tail (laidMet.tail h))
  exact Lib.tabIs_of_head gPow (t := 129) (e := 120) (n := 20) (by kernel_rfl) (by kernel_rfl) (by kernel_rfl) (by kernel_rfl) (by kernel_rfl) (k := .u64) (zs := Lib.pow10Tab) h2
theorem tabOk_of {W : World} (h : Lib.TabIs Tryd.prog W "internal/strconv.uint64pow10" .u64 Lib.pow10Tab) : TabOk (cx0 W) := fun w hk => Joins.tab_stays gPow h hk.below (Nat.le_refl _)
end Go.Proofs.YtckefhnobflhcaaDoor.V
