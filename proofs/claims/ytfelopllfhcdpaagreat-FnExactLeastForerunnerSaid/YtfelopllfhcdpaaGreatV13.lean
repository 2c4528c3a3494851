/- One state of a walk seen as another: names changed, entries forgotten. -/
import Derived.Test.YtfelopllfhcdpaaGreatV12
set_option linter.all false
namespace Go.Proofs.YtfelopllfhcdpaaGreat.V

def ren (σ : Nat → Nat) : SV → SV
  | .ptr i o => .ptr (σ i) o
  | .sl i o a b => .sl (σ i) o a b
  | .agg n F => .agg n fun j => ren σ (F j)
  | .tup n F => .tup n fun j => ren σ (F j)
  | .fn f m G n F => .fn f m (fun j => ren σ (G j)) n fun j => ren σ (F j)
  | v => v
section
variable (σ : Nat → Nat)
@[go_sem] theorem ren_ptr (i o : Nat) : ren σ (.ptr i o) = .ptr (σ i) o := rfl
@[go_sem] theorem ren_sl (i o a b : Nat) : ren σ (.sl i o a b) = .sl (σ i) o a b := rfl
@[go_sem] theorem ren_int (k : IntKind) (n : Int) : ren σ (.int k n) = .int k n := rfl
@[go_sem] theorem ren_bool (b : Bool) : ren σ (.bool b) = .bool b := rfl
@[go_sem] theorem ren_str (b : ByteArray) : ren σ (.str b) = .str b := rfl
@[go_sem] theorem ren_nils : ren σ .nils = .nils := rfl
@[go_sem] theorem ren_raw (v : Value) : ren σ (.raw v) = .raw v := rfl
@[go_sem] theorem ren_agg (n : Nat) (F : Nat → SV) : ren σ (.agg n F) = .agg n fun j => ren σ (F j) := rfl
@[go_sem] theorem ren_fn (f m n : Nat) (G F : Nat → SV) : ren σ (.fn f m G n F) = .fn f m (fun j => ren σ (G j)) n fun j => ren σ (F j) := rfl
end
theorem den_ren (ρ : Rho) (σ : Nat → Nat) : ∀ v : SV, den ρ (ren σ v) = den (fun i => ρ (σ i)) v
  | .bad | .int .. | .bool _ | .str _ | .nils | .raw _ | .ptr .. | .sl .. => rfl
  | .agg n F => by simp only [ren, den]; congr 1; exact arr_congr fun j _ => den_ren ρ σ (F j)
  | .tup n F => by simp only [ren, den]; congr 1; exact arr_congr fun j _ => den_ren ρ σ (F j)
  | .fn f m G n F => by
    simp only [ren, den]
    congr 1
    · exact arr_congr fun j _ => den_ren ρ σ (G j)
    · exact arr_congr fun j _ => den_ren ρ σ (F j)
theorem ren_id : ∀ v : SV, ren (fun i => i) v = v
  | .bad | .int .. | .bool _ | .str _ | .nils | .raw _ | .ptr .. | .sl .. => rfl
  | .agg n F => by simp only [ren]; congr 1; funext j; exact ren_id (F j)
  | .tup n F => by simp only [ren]; congr 1; funext j; exact ren_id (F j)
  | .fn f m G n F => by
    simp only [ren]
    congr 1
    · funext j; exact ren_id (G j)
    · funext j; exact ren_id (F j)

@[go_sem] theorem nm1 (n : Nat) : n + 1 + 1 = n + 2 := rfl
@[go_sem] theorem nm2 (n : Nat) : n + 2 + 1 = n + 3 := rfl
@[go_sem] theorem nm3 (n : Nat) : n + 3 + 1 = n + 4 := rfl
@[go_sem] theorem nm4 (n : Nat) : n + 4 + 1 = n + 5 := rfl
@[go_sem] theorem nm5 (n : Nat) : n + 5 + 1 = n + 6 := rfl
@[go_sem] theorem nm6 (n : Nat) : n + 6 + 1 = n + 7 := rfl
@[go_sem] theorem nm7 (n : Nat) : n + 7 + 1 = n + 8 := rfl
@[go_sem] theorem nm8 (n : Nat) : n + 8 + 1 = n + 9 := rfl
@[go_sem] theorem nm9 (n : Nat) : n + 9 + 1 = n + 10 := rfl
@[go_sem] theorem nm10 (n : Nat) : n + 10 + 1 = n + 11 := rfl
@[go_sem] theorem nm11 (n : Nat) : n + 11 + 1 = n + 12 := rfl
@[go_sem] theorem nm12 (n : Nat) : n + 12 + 1 = n + 13 := rfl
@[go_sem] theorem nm13 (n : Nat) : n + 13 + 1 = n + 14 := rfl
@[go_sem] theorem nm14 (n : Nat) : n + 14 + 1 = n + 15 := rfl
@[go_sem] theorem nm15 (n : Nat) : n + 15 + 1 = n + 16 := rfl
@[go_sem] theorem nm16 (n : Nat) : n + 16 + 1 = n + 17 := rfl
@[go_sem] theorem nm17 (n : Nat) : n + 17 + 1 = n + 18 := rfl
@[go_sem] theorem nm18 (n : Nat) : n + 18 + 1 = n + 19 := rfl
@[go_sem] theorem nm19 (n : Nat) : n + 19 + 1 = n + 20 := rfl
@[go_sem] theorem nm20 (n : Nat) : n + 20 + 1 = n + 21 := rfl
@[go_sem] theorem nm21 (n : Nat) : n + 21 + 1 = n + 22 := rfl
@[go_sem] theorem nm22 (n : Nat) : n + 22 + 1 = n + 23 := rfl
@[go_sem] theorem nm23 (n : Nat) : n + 23 + 1 = n + 24 := rfl
@[go_sem] theorem nm24 (n : Nat) : n + 24 + 1 = n + 25 := rfl
@[go_sem] theorem nm25 (n : Nat) : n + 25 + 1 = n + 26 := rfl
@[go_sem] theorem nm26 (n : Nat) : n + 26 + 1 = n + 27 := rfl
@[go_sem] theorem nm27 (n : Nat) : n + 27 + 1 = n + 28 := rfl
@[go_sem] theorem nm28 (n : Nat) : n + 28 + 1 = n + 29 := rfl
@[go_sem] theorem nm29 (n : Nat) : n + 29 + 1 = n + 30 := rfl
@[go_sem] theorem nm30 (n : Nat) : n + 30 + 1 = n + 31 := rfl
@[go_sem] theorem nm31 (n : Nat) : n + 31 + 1 = n + 32 := rfl
@[go_sem] theorem nm32 (n : Nat) : n + 32 + 1 = n + 33 := rfl
@[go_sem] theorem nm33 (n : Nat) : n + 33 + 1 = n + 34 := rfl
@[go_sem] theorem nm34 (n : Nat) : n + 34 + 1 = n + 35 := rfl
@[go_sem] theorem nm35 (n : Nat) : n + 35 + 1 = n + 36 := rfl
@[go_sem] theorem nm36 (n : Nat) : n + 36 + 1 = n + 37 := rfl
@[go_sem] theorem nm37 (n : Nat) : n + 37 + 1 = n + 38 := rfl
@[go_sem] theorem nm38 (n : Nat) : n + 38 + 1 = n + 39 := rfl
@[go_sem] theorem nm39 (n : Nat) : n + 39 + 1 = n + 40 := rfl
@[go_sem] theorem nm40 (n : Nat) : n + 40 + 1 = n + 41 := rfl
@[go_sem] theorem nm41 (n : Nat) : n + 41 + 1 = n + 42 := rfl
@[go_sem] theorem nm42 (n : Nat) : n + 42 + 1 = n + 43 := rfl
@[go_sem] theorem nm43 (n : Nat) : n + 43 + 1 = n + 44 := rfl
@[go_sem] theorem nm44 (n : Nat) : n + 44 + 1 = n + 45 := rfl
@[go_sem] theorem nm45 (n : Nat) : n + 45 + 1 = n + 46 := rfl
@[go_sem] theorem nm46 (n : Nat) : n + 46 + 1 = n + 47 := rfl
@[go_sem] theorem nm47 (n : Nat) : n + 47 + 1 = n + 48 := rfl
@[go_sem] theorem nm48 (n : Nat) : n + 48 + 1 = n + 49 := rfl
@[go_sem] theorem nm49 (n : Nat) : n + 49 + 1 = n + 50 := rfl
@[go_sem] theorem nm50 (n : Nat) : n + 50 + 1 = n + 51 := rfl
@[go_sem] theorem nm51 (n : Nat) : n + 51 + 1 = n + 52 := rfl
@[go_sem] theorem nm52 (n : Nat) : n + 52 + 1 = n + 53 := rfl
@[go_sem] theorem nm53 (n : Nat) : n + 53 + 1 = n + 54 := rfl
@[go_sem] theorem nm54 (n : Nat) : n + 54 + 1 = n + 55 := rfl
@[go_sem] theorem nm55 (n : Nat) : n + 55 + 1 = n + 56 := rfl
@[go_sem] theorem nm56 (n : Nat) : n + 56 + 1 = n + 57 := rfl
@[go_sem] theorem nm57 (n : Nat) : n + 57 + 1 = n + 58 := rfl
@[go_sem] theorem nm58 (n : Nat) : n + 58 + 1 = n + 59 := rfl
@[go_sem] theorem nm59 (n : Nat) : n + 59 + 1 = n + 60 := rfl
@[go_sem] theorem nm1_2 (n : Nat) : n + 1 + 2 = n + 3 := rfl
@[go_sem] theorem nm1_3 (n : Nat) : n + 1 + 3 = n + 4 := rfl
@[go_sem] theorem nm1_4 (n : Nat) : n + 1 + 4 = n + 5 := rfl
@[go_sem] theorem nm1_5 (n : Nat) : n + 1 + 5 = n + 6 := rfl
@[go_sem] theorem nm1_6 (n : Nat) : n + 1 + 6 = n + 7 := rfl
@[go_sem] theorem nm1_7 (n : Nat) : n + 1 + 7 = n + 8 := rfl
@[go_sem] theorem nm1_8 (n : Nat) : n + 1 + 8 = n + 9 := rfl
@[go_sem] theorem nm1_9 (n : Nat) : n + 1 + 9 = n + 10 := rfl
@[go_sem] theorem nm1_10 (n : Nat) : n + 1 + 10 = n + 11 := rfl
@[go_sem] theorem nm1_11 (n : Nat) : n + 1 + 11 = n + 12 := rfl
@[go_sem] theorem nm1_12 (n : Nat) : n + 1 + 12 = n + 13 := rfl
@[go_sem] theorem nm1_13 (n : Nat) : n + 1 + 13 = n + 14 := rfl
@[go_sem] theorem nm1_14 (n : Nat) : n + 1 + 14 = n + 15 := rfl
@[go_sem] theorem nm1_15 (n : Nat) : n + 1 + 15 = n + 16 := rfl
@[go_sem] theorem nm1_16 (n : Nat) : n + 1 + 16 = n + 17 := rfl
@[go_sem] theorem nm1_17 (n : Nat) : n + 1 + 17 = n + 18 := rfl
@[go_sem] theorem nm1_18 (n : Nat) : n + 1 + 18 = n + 19 := rfl
@[go_sem] theorem nm1_19 (n : Nat) : n + 1 + 19 = n + 20 := rfl
@[go_sem] theorem nm1_20 (n : Nat) : n + 1 + 20 = n + 21 := rfl
@[go_sem] theorem nm1_21 (n : Nat) : n + 1 + 21 = n + 22 := rfl
@[go_sem] theorem nm1_22 (n : Nat) : n + 1 + 22 = n + 23 := rfl
@[go_sem] theorem nm1_23 (n : Nat) : n + 1 + 23 = n + 24 := rfl
@[go_sem] theorem nm1_24 (n : Nat) : n + 1 + 24 = n + 25 := rfl
@[go_sem] theorem nm1_25 (n : Nat) : n + 1 + 25 = n + 26 := rfl
@[go_sem] theorem nm1_26 (n : Nat) : n + 1 + 26 = n + 27 := rfl
@[go_sem] theorem nm1_27 (n : Nat) : n + 1 + 27 = n + 28 := rfl
@[go_sem] theorem nm1_28 (n : Nat) : n + 1 + 28 = n + 29 := rfl
@[go_sem] theorem nm1_29 (n : Nat) : n + 1 + 29 = n + 30 := rfl
@[go_sem] theorem nm2_2 (n : Nat) : n + 2 + 2 = n + 4 := rfl
@[go_sem] theorem nm2_3 (n : Nat) : n + 2 + 3 = n + 5 := rfl
@[go_sem] theorem nm2_4 (n : Nat) : n + 2 + 4 = n + 6 := rfl
@[go_sem] theorem nm2_5 (n : Nat) : n + 2 + 5 = n + 7 := rfl
@[go_sem] theorem nm2_6 (n : Nat) : n + 2 + 6 = n + 8 := rfl
@[go_sem] theorem nm2_7 (n : Nat) : n + 2 + 7 = n + 9 := rfl
@[go_sem] theorem nm2_8 (n : Nat) : n + 2 + 8 = n + 10 := rfl
@[go_sem] theorem nm2_9 (n : Nat) : n + 2 + 9 = n + 11 := rfl
@[go_sem] theorem nm2_10 (n : Nat) : n + 2 + 10 = n + 12 := rfl
@[go_sem] theorem nm2_11 (n : Nat) : n + 2 + 11 = n + 13 := rfl
@[go_sem] theorem nm2_12 (n : Nat) : n + 2 + 12 = n + 14 := rfl
@[go_sem] theorem nm2_13 (n : Nat) : n + 2 + 13 = n + 15 := rfl
@[go_sem] theorem nm2_14 (n : Nat) : n + 2 + 14 = n + 16 := rfl
@[go_sem] theorem nm2_15 (n : Nat) : n + 2 + 15 = n + 17 := rfl
@[go_sem] theorem nm2_16 (n : Nat) : n + 2 + 16 = n + 18 := rfl
@[go_sem] theorem nm2_17 (n : Nat) : n + 2 + 17 = n + 19 := rfl
@[go_sem] theorem nm2_18 (n : Nat) : n + 2 + 18 = n + 20 := rfl
@[go_sem] theorem nm2_19 (n : Nat) : n + 2 + 19 = n + 21 := rfl
@[go_sem] theorem nm2_20 (n : Nat) : n + 2 + 20 = n + 22 := rfl
@[go_sem] theorem nm2_21 (n : Nat) : n + 2 + 21 = n + 23 := rfl
@[go_sem] theorem nm2_22 (n : Nat) : n + 2 + 22 = n + 24 := rfl
@[go_sem] theorem nm2_23 (n : Nat) : n + 2 + 23 = n + 25 := rfl
@[go_sem] theorem nm2_24 (n : Nat) : n + 2 + 24 = n + 26 := rfl
@[go_sem] theorem nm2_25 (n : Nat) : n + 2 + 25 = n + 27 := rfl
@[go_sem] theorem nm2_26 (n : Nat) : n + 2 + 26 = n + 28 := rfl
@[go_sem] theorem nm2_27 (n : Nat) : n + 2 + 27 = n + 29 := rfl
@[go_sem] theorem nm2_28 (n : Nat) : n + 2 + 28 = n + 30 := rfl
@[go_sem] theorem nm2_29 (n : Nat) : n + 2 + 29 = n + 31 := rfl
@[go_sem] theorem nm3_2 (n : Nat) : n + 3 + 2 = n + 5 := rfl
@[go_sem] theorem nm3_3 (n : Nat) : n + 3 + 3 = n + 6 := rfl
@[go_sem] theorem nm3_4 (n : Nat) : n + 3 + 4 = n + 7 := rfl
@[go_sem] theorem nm3_5 (n : Nat) : n + 3 + 5 = n + 8 := rfl
@[go_sem] theorem nm3_6 (n : Nat) : n + 3 + 6 = n + 9 := rfl
@[go_sem] theorem nm3_7 (n : Nat) : n + 3 + 7 = n + 10 := rfl
@[go_sem] theorem nm3_8 (n : Nat) : n + 3 + 8 = n + 11 := rfl
@[go_sem] theorem nm3_9 (n : Nat) : n + 3 + 9 = n + 12 := rfl
@[go_sem] theorem nm3_10 (n : Nat) : n + 3 + 10 = n + 13 := rfl
@[go_sem] theorem nm3_11 (n : Nat) : n + 3 + 11 = n + 14 := rfl
@[go_sem] theorem nm3_12 (n : Nat) : n + 3 + 12 = n + 15 := rfl
@[go_sem] theorem nm3_13 (n : Nat) : n + 3 + 13 = n + 16 := rfl
@[go_sem] theorem nm3_14 (n : Nat) : n + 3 + 14 = n + 17 := rfl
@[go_sem] theorem nm3_15 (n : Nat) : n + 3 + 15 = n + 18 := rfl
@[go_sem] theorem nm3_16 (n : Nat) : n + 3 + 16 = n + 19 := rfl
@[go_sem] theorem nm3_17 (n : Nat) : n + 3 + 17 = n + 20 := rfl
@[go_sem] theorem nm3_18 (n : Nat) : n + 3 + 18 = n + 21 := rfl
@[go_sem] theorem nm3_19 (n : Nat) : n + 3 + 19 = n + 22 := rfl
@[go_sem] theorem nm3_20 (n : Nat) : n + 3 + 20 = n + 23 := rfl
@[go_sem] theorem nm3_21 (n : Nat) : n + 3 + 21 = n + 24 := rfl
@[go_sem] theorem nm3_22 (n : Nat) : n + 3 + 22 = n + 25 := rfl
@[go_sem] theorem nm3_23 (n : Nat) : n + 3 + 23 = n + 26 := rfl
@[go_sem] theorem nm3_24 (n : Nat) : n + 3 + 24 = n + 27 := rfl
@[go_sem] theorem nm3_25 (n : Nat) : n + 3 + 25 = n + 28 := rfl
@[go_sem] theorem nm3_26 (n : Nat) : n + 3 + 26 = n + 29 := rfl
@[go_sem] theorem nm3_27 (n : Nat) : n + 3 + 27 = n + 30 := rfl
@[go_sem] theorem nm3_28 (n : Nat) : n + 3 + 28 = n + 31 := rfl
@[go_sem] theorem nm3_29 (n : Nat) : n + 3 + 29 = n + 32 := rfl
@[go_sem] theorem nm4_2 (n : Nat) : n + 4 + 2 = n + 6 := rfl
@[go_sem] theorem nm4_3 (n : Nat) : n + 4 + 3 = n + 7 := rfl
@[go_sem] theorem nm4_4 (n : Nat) : n + 4 + 4 = n + 8 := rfl
@[go_sem] theorem nm4_5 (n : Nat) : n + 4 + 5 = n + 9 := rfl
@[go_sem] theorem nm4_6 (n : Nat) : n + 4 + 6 = n + 10 := rfl
@[go_sem] theorem nm4_7 (n : Nat) : n + 4 + 7 = n + 11 := rfl
@[go_sem] theorem nm4_8 (n : Nat) : n + 4 + 8 = n + 12 := rfl
@[go_sem] theorem nm4_9 (n : Nat) : n + 4 + 9 = n + 13 := rfl
@[go_sem] theorem nm4_10 (n : Nat) : n + 4 + 10 = n + 14 := rfl
@[go_sem] theorem nm4_11 (n : Nat) : n + 4 + 11 = n + 15 := rfl
@[go_sem] theorem nm4_12 (n : Nat) : n + 4 + 12 = n + 16 := rfl
@[go_sem] theorem nm4_13 (n : Nat) : n + 4 + 13 = n + 17 := rfl
@[go_sem] theorem nm4_14 (n : Nat) : n + 4 + 14 = n + 18 := rfl
@[go_sem] theorem nm4_15 (n : Nat) : n + 4 + 15 = n + 19 := rfl
@[go_sem] theorem nm4_16 (n : Nat) : n + 4 + 16 = n + 20 := rfl
@[go_sem] theorem nm4_17 (n : Nat) : n + 4 + 17 = n + 21 := rfl
@[go_sem] theorem nm4_18 (n : Nat) : n + 4 + 18 = n + 22 := rfl
@[go_sem] theorem nm4_19 (n : Nat) : n + 4 + 19 = n + 23 := rfl
@[go_sem] theorem nm4_20 (n : Nat) : n + 4 + 20 = n + 24 := rfl
@[go_sem] theorem nm4_21 (n : Nat) : n + 4 + 21 = n + 25 := rfl
@[go_sem] theorem nm4_22 (n : Nat) : n + 4 + 22 = n + 26 := rfl
@[go_sem] theorem nm4_23 (n : Nat) : n + 4 + 23 = n + 27 := rfl
@[go_sem] theorem nm4_24 (n : Nat) : n + 4 + 24 = n + 28 := rfl
@[go_sem] theorem nm4_25 (n : Nat) : n + 4 + 25 = n + 29 := rfl
@[go_sem] theorem nm4_26 (n : Nat) : n + 4 + 26 = n + 30 := rfl
@[go_sem] theorem nm4_27 (n : Nat) : n + 4 + 27 = n + 31 := rfl
@[go_sem] theorem nm4_28 (n : Nat) : n + 4 + 28 = n + 32 := rfl
@[go_sem] theorem nm4_29 (n : Nat) : n + 4 + 29 = n + 33 := rfl
@[go_sem] theorem nm5_2 (n : Nat) : n + 5 + 2 = n + 7 := rfl
@[go_sem] theorem nm5_3 (n : Nat) : n + 5 + 3 = n + 8 := rfl
@[go_sem] theorem nm5_4 (n : Nat) : n + 5 + 4 = n + 9 := rfl
@[go_sem] theorem nm5_5 (n : Nat) : n + 5 + 5 = n + 10 := rfl
@[go_sem] theorem nm5_6 (n : Nat) : n + 5 + 6 = n + 11 := rfl
@[go_sem] theorem nm5_7 (n : Nat) : n + 5 + 7 = n + 12 := rfl
@[go_sem] theorem nm5_8 (n : Nat) : n + 5 + 8 = n + 13 := rfl
@[go_sem] theorem nm5_9 (n : Nat) : n + 5 + 9 = n + 14 := rfl
@[go_sem] theorem nm5_10 (n : Nat) : n + 5 + 10 = n + 15 := rfl
@[go_sem] theorem nm5_11 (n : Nat) : n + 5 + 11 = n + 16 := rfl
@[go_sem] theorem nm5_12 (n : Nat) : n + 5 + 12 = n + 17 := rfl
@[go_sem] theorem nm5_13 (n : Nat) : n + 5 + 13 = n + 18 := rfl
@[go_sem] theorem nm5_14 (n : Nat) : n + 5 + 14 = n + 19 := rfl
@[go_sem] theorem nm5_15 (n : Nat) : n + 5 + 15 = n + 20 := rfl
@[go_sem] theorem nm5_16 (n : Nat) : n + 5 + 16 = n + 21 := rfl
@[go_sem] theorem nm5_17 (n : Nat) : n + 5 + 17 = n + 22 := rfl
@[go_sem] theorem nm5_18 (n : Nat) : n + 5 + 18 = n + 23 := rfl
@[go_sem] theorem nm5_19 (n : Nat) : n + 5 + 19 = n + 24 := rfl
@[go_sem] theorem nm5_20 (n : Nat) : n + 5 + 20 = n + 25 := rfl
@[go_sem] theorem nm5_21 (n : Nat) : n + 5 + 21 = n + 26 := rfl
@[go_sem] theorem nm5_22 (n : Nat) : n + 5 + 22 = n + 27 := rfl
@[go_sem] theorem nm5_23 (n : Nat) : n + 5 + 23 = n + 28 := rfl
@[go_sem] theorem nm5_24 (n : Nat) : n + 5 + 24 = n + 29 := rfl
@[go_sem] theorem nm5_25 (n : Nat) : n + 5 + 25 = n + 30 := rfl
@[go_sem] theorem nm5_26 (n : Nat) : n + 5 + 26 = n + 31 := rfl
@[go_sem] theorem nm5_27 (n : Nat) : n + 5 + 27 = n + 32 := rfl
@[go_sem] theorem nm5_28 (n : Nat) : n + 5 + 28 = n + 33 := rfl
@[go_sem] theorem nm5_29 (n : Nat) : n + 5 + 29 = n + 34 := rfl
@[go_sem] theorem nm6_2 (n : Nat) : n + 6 + 2 = n + 8 := rfl
@[go_sem] theorem nm6_3 (n : Nat) : n + 6 + 3 = n + 9 := rfl
@[go_sem] theorem nm6_4 (n : Nat) : n + 6 + 4 = n + 10 := rfl
@[go_sem] theorem nm6_5 (n : Nat) : n + 6 + 5 = n + 11 := rfl
@[go_sem] theorem nm6_6 (n : Nat) : n + 6 + 6 = n + 12 := rfl
@[go_sem] theorem nm6_7 (n : Nat) : n + 6 + 7 = n + 13 := rfl
@[go_sem] theorem nm6_8 (n : Nat) : n + 6 + 8 = n + 14 := rfl
@[go_sem] theorem nm6_9 (n : Nat) : n + 6 + 9 = n + 15 := rfl
@[go_sem] theorem nm6_10 (n : Nat) : n + 6 + 10 = n + 16 := rfl
@[go_sem] theorem nm6_11 (n : Nat) : n + 6 + 11 = n + 17 := rfl
@[go_sem] theorem nm6_12 (n : Nat) : n + 6 + 12 = n + 18 := rfl
@[go_sem] theorem nm6_13 (n : Nat) : n + 6 + 13 = n + 19 := rfl
@[go_sem] theorem nm6_14 (n : Nat) : n + 6 + 14 = n + 20 := rfl
@[go_sem] theorem nm6_15 (n : Nat) : n + 6 + 15 = n + 21 := rfl
@[go_sem] theorem nm6_16 (n : Nat) : n + 6 + 16 = n + 22 := rfl
@[go_sem] theorem nm6_17 (n : Nat) : n + 6 + 17 = n + 23 := rfl
@[go_sem] theorem nm6_18 (n : Nat) : n + 6 + 18 = n + 24 := rfl
@[go_sem] theorem nm6_19 (n : Nat) : n + 6 + 19 = n + 25 := rfl
@[go_sem] theorem nm6_20 (n : Nat) : n + 6 + 20 = n + 26 := rfl
@[go_sem] theorem nm6_21 (n : Nat) : n + 6 + 21 = n + 27 := rfl
@[go_sem] theorem nm6_22 (n : Nat) : n + 6 + 22 = n + 28 := rfl
@[go_sem] theorem nm6_23 (n : Nat) : n + 6 + 23 = n + 29 := rfl
@[go_sem] theorem nm6_24 (n : Nat) : n + 6 + 24 = n + 30 := rfl
@[go_sem] theorem nm6_25 (n : Nat) : n + 6 + 25 = n + 31 := rfl
@[go_sem] theorem nm6_26 (n : Nat) : n + 6 + 26 = n + 32 := rfl
@[go_sem] theorem nm6_27 (n : Nat) : n + 6 + 27 = n + 33 := rfl
@[go_sem] theorem nm6_28 (n : Nat) : n + 6 + 28 = n + 34 := rfl
@[go_sem] theorem nm6_29 (n : Nat) : n + 6 + 29 = n + 35 := rfl
@[go_sem] theorem nbeq1 (n k : Nat) : (n + (k + 1) == n) = false := by simp
@[go_sem] theorem nbeq2 (n k : Nat) : (n == n + (k + 1)) = false := by simp
@[go_sem] theorem nbeq3 (n a b : Nat) : (n + a == n + b) = (a == b) := by
  rw [Bool.eq_iff_iff]; simp
@[go_sem] theorem beq_nn (n : Nat) : (n == n) = true := by simp

attribute [go_sem] Int.toNat_natCast Bool.not_true Bool.not_false false_implies true_implies decide_true decide_false true_and and_true and_false false_and and_self Bool.false_eq_true List.getElem?_cons_zero List.getElem?_cons_succ List.length_cons List.length_nil List.take_succ_cons List.take_zero List.drop_succ_cons List.drop_zero ne_eq not_false_eq_true Nat.add_zero Nat.zero_add Nat.mul_one Int.cast_ofNat_Int Nat.le_refl Nat.le_add_right Nat.zero_le forall_const
/-- Names changed, a few. -/
def sig : List (Nat × Nat) → Nat → Nat
  | [], i => i
  | (a, b) :: r, i => if a = i then b else sig r i
@[go_sem] theorem sig_nil (i : Nat) : sig [] i = i := rfl
@[go_sem high] theorem sig_hit (a b : Nat) (r : List (Nat × Nat)) : sig ((a, b) :: r) a = b := by simp [sig]
@[go_sem] theorem sig_miss (a b i : Nat) (r : List (Nat × Nat)) (h : (a == i) = false) : sig ((a, b) :: r) i = sig r i := by simp at h; simp [sig, h]

@[go_sem ↓ high] theorem ren_nil (v : SV) : ren (sig []) v = v := ren_id v
/-- The temporaries of a state, found in another. -/
def impL (l : List (Nat × SV)) (σ : Nat → Nat) (n' : Nat) : List (Nat × SV) → Prop
  | [] => True
  | (t, v) :: r => (ev l (.tmp t) = ren σ v ∧ v.ok ∧ v.lt n') ∧ impL l σ n' r
@[congr] theorem impL_congr (l : List (Nat × SV)) (σ : Nat → Nat) (n' : Nat) (r : List (Nat × SV)) : impL l σ n' r = impL l σ n' r := rfl
@[go_sem ↓] theorem impL_nil (l : List (Nat × SV)) (σ : Nat → Nat) (n' : Nat) : impL l σ n' [] = True := rfl
@[go_sem ↓] theorem impL_cons (l : List (Nat × SV)) (σ : Nat → Nat) (n' : Nat) (t : Nat) (v : SV) (r : List (Nat × SV)) : impL l σ n' ((t, v) :: r) = ((ev l (.tmp t) = ren σ v ∧ v.ok ∧ v.lt n') ∧ impL l σ n' r) := rfl
section
variable (m : Nat)
@[go_sem] theorem lt_bad : SV.bad.lt m = True := rfl
@[go_sem] theorem lt_int (k : IntKind) (n : Int) : (SV.int k n).lt m = True := rfl
@[go_sem] theorem lt_bool (b : Bool) : (SV.bool b).lt m = True := rfl
@[go_sem] theorem lt_str (b : ByteArray) : (SV.str b).lt m = True := rfl
@[go_sem] theorem lt_nils : SV.nils.lt m = True := rfl
@[go_sem] theorem lt_raw (v : Value) : (SV.raw v).lt m = True := rfl
@[go_sem] theorem lt_ptr (i o : Nat) : (SV.ptr i o).lt m = (i < m) := rfl
@[go_sem] theorem lt_sl (i o a b : Nat) : (SV.sl i o a b).lt m = (i < m) := rfl
@[go_sem low] theorem lt_agg (n : Nat) (F : Nat → SV) : (SV.agg n F).lt m = ∀ j, j < n → (F j).lt m := rfl
@[go_sem low] theorem lt_tup (n : Nat) (F : Nat → SV) : (SV.tup n F).lt m = ∀ j, j < n → (F j).lt m := rfl
@[go_sem low] theorem lt_fn (f k n : Nat) (G F : Nat → SV) : (SV.fn f k G n F).lt m = ((∀ j, j < k → (G j).lt m) ∧ ∀ j, j < n → (F j).lt m) := rfl
end
/-- A segment that says no more. -/
structure SegLe (σ : Nat → Nat) (n' : Nat) (s t : Seg) : Prop where
  len : t.n ≤ s.n
  rw_ : t.rw = true → s.rw = true
  own : t.own = none ∨ t.own = s.own
  c : ∀ k, k < t.n → ∀ ρ : Rho, den ρ (s.c k) = den (fun i => ρ (σ i)) (t.c k)
  lt : ∀ k, k < t.n → (t.c k).lt n'
theorem SegLe.mk' {σ : Nat → Nat} {n' : Nat} {s t : Seg} (len : t.n ≤ s.n) (rw_ : t.rw = true → s.rw = true) (own : t.own = none ∨ t.own = s.own) (c : ∀ k, k < t.n → s.c k = ren σ (t.c k)) (lt : ∀ k, k < t.n → (t.c k).lt n') : SegLe σ n' s t :=
  ⟨len, rw_, own, fun k hk ρ => by rw [c k hk, den_ren], lt⟩
/-- Plain cells: numbers, texts. -/
def SV.flat : SV → Prop
  | .int .. | .bool _ | .str _ => True
  | _ => False
theorem SV.flat.below {v : SV} (h : v.flat) (m : Nat) : v.lt m := by cases v <;> first | trivial | exact h.elim
theorem SegLe.flat {σ : Nat → Nat} {n' : Nat} {s t : Seg} (len : t.n ≤ s.n) (rw_ : t.rw = true → s.rw = true) (own : t.own = none ∨ t.own = s.own) (c : ∀ k, k < t.n → s.c k = t.c k ∧ (t.c k).flat) : SegLe σ n' s t :=
  SegLe.mk' len rw_ own (fun k hk => by rw [(c k hk).1]; have := (c k hk).2; cases h : t.c k <;> rw [h] at this <;> first | rfl | exact this.elim)
    (fun k hk => by have := (c k hk).2; cases h : t.c k <;> rw [h] at this <;> first | trivial | exact this.elim)

def impH (h : List (Nat × Seg)) (σ : Nat → Nat) (n' : Nat) (h' : List (Nat × Seg)) : Prop :=
  ∀ i t, hget h' i = some t → i < n' ∧ ∃ s, hget h (σ i) = some s ∧ SegLe σ n' s t
theorem impH.nil (h : List (Nat × Seg)) (σ : Nat → Nat) (n' : Nat) : impH h σ n' [] := fun i t ht => by cases ht
theorem impH.cons {h h' : List (Nat × Seg)} {σ : Nat → Nat} {n' i : Nat} {s t : Seg} (hi : i < n') (hs : hget h (σ i) = some s) (hst : SegLe σ n' s t) (H : impH h σ n' h') : impH h σ n' ((i, t) :: h') := by
  intro j u hu
  simp only [hget] at hu
  split at hu
  · rename_i he; subst he; cases hu; exact ⟨hi, s, hs, hst⟩
  · exact H j u hu

theorem HExt.rfl {n : Nat} {h : List (Nat × Seg)} : HExt n h h := fun _ _ _ h => h
theorem HExt.cons {n m : Nat} {s : Seg} {h h' : List (Nat × Seg)} (hx : HExt n h h') (hm : n ≤ m) : HExt n h ((m, s) :: h') := fun i hi t ht => by
  simp only [hget]; rw [if_neg (by omega)]; exact hx i hi t ht
/-- What the caller had. -/
theorem impH.base {h h0 : List (Nat × Seg)} {σ : Nat → Nat} {m n' : Nat} (hok : HOk m h0) (hm : m ≤ n') (hσ : ∀ i, i < m → σ i = i) (hx : HExt m h0 h) : impH h σ n' h0 := by
  intro i t ht
  obtain ⟨h1, h2⟩ := hok i t ht
  refine ⟨by omega, t, by rw [hσ i h1]; exact hx i h1 t ht, Nat.le_refl _, id, .inr rfl, fun k hk ρ => den_congr (m := m) (fun i hi => by rw [hσ i hi]) _ (h2 k hk), fun k hk => SV.lt_mono hm _ (h2 k hk)⟩
theorem HOk.hset {m i : Nat} {h : List (Nat × Seg)} {s : Seg} (hok : HOk m h) (hs : ∀ k, k < s.n → (s.c k).lt m) : HOk m (hset h i s) := by
  intro j t ht
  rw [hget_hset] at ht
  split at ht
  · rename_i he; subst he
    cases hh : hget h i with
    | none => rw [hh] at ht; cases ht
    | some u => rw [hh] at ht; cases ht; exact ⟨(hok i u hh).1, hs⟩
  · exact hok j t ht
theorem HOk.no {m b : Nat} {h : List (Nat × Seg)} (hok : HOk m h) (hb : m ≤ b) : hget h b = none := by
  cases hh : hget h b with
  | none => rfl
  | some t => have := (hok b t hh).1; omega
theorem HOk.del {m b : Nat} {h : List (Nat × Seg)} (hok : HOk m h) (hb : m ≤ b) : hdel h b = h := by
  have : ∀ (h : List (Nat × Seg)), hget h b = none → hdel h b = h := by
    intro h
    induction h with
    | nil => intro _; rfl
    | cons p h ih =>
      obtain ⟨k, s⟩ := p
      intro hh
      simp only [hget] at hh
      split at hh
      · cases hh
      · rename_i hk; simp only [hdel, if_neg hk, ih hh]
  exact this h (hok.no hb)
section
variable {cx : Cx} {l l' : List (Nat × SV)} {h h' : List (Nat × Seg)} {n n' : Nat}

theorem impL_val {σ : Nat → Nat} : ∀ {l' : List (Nat × SV)}, impL l σ n' l' → ∀ t v, look l' t = some v → ev l (.tmp t) = ren σ v ∧ v.ok ∧ v.lt n'
  | (u, x) :: r, hl, t, v, ht => by
    simp only [look] at ht
    split at ht
    · rename_i he; subst he; cases ht; exact hl.1
    · exact impL_val hl.2 t v ht
theorem ren_ok {σ : Nat → Nat} {v : SV} (h : v.ok) : ren σ v ≠ .bad := by
  cases v <;> first | exact h.elim | (intro hc; cases hc)

theorem SatH.imp {ρ : Rho} {w : World} (sh : SatH cx ρ h n w) (σ : Nat → Nat) (inj : ∀ i j s t, hget h' i = some s → hget h' j = some t → i ≠ j → σ i ≠ σ j) (hh : impH h σ n' h') : SatH cx (fun i => ρ (σ i)) h' n' w := by
  refine ⟨sh.keeps, fun i t hi => ?_, fun i j x y hij hx hy hw => ?_, fun i t hi => ?_⟩
  · obtain ⟨h1, s, hs, le⟩ := hh i t hi
    have S := sh.seg (σ i) s hs
    refine ⟨S.blk, fun j hj => ?_, fun hr j hj => S.rwf (le.rw_ hr) j (Nat.lt_of_lt_of_le hj le.len), fun T m hm => ?_⟩
    · rw [← le.c j hj]; exact S.cells j (Nat.lt_of_lt_of_le hj le.len)
    · rcases le.own with h | h
      · rw [h] at hm; cases hm
      · exact S.own T m (h ▸ hm)
  · obtain ⟨_, s, hs, le⟩ := hh i x hx
    obtain ⟨_, t, ht, le'⟩ := hh j y hy
    have hw' : s.rw = true ∨ s.own.isSome = true := by
      rcases hw with h | h
      · exact .inl (le.rw_ h)
      · rcases le.own with h' | h'
        · rw [h'] at h; cases h
        · exact .inr (h' ▸ h)
    rcases sh.dis (σ i) (σ j) s t (inj i j x y hx hy hij) hs ht hw' with h | ⟨h1, h2, h3⟩
    · exact .inl h
    · refine .inr ⟨?_, ?_, ?_⟩
      · rcases le.own with h | h
        · exact h
        · rw [h, h1]
      · rcases le'.own with h | h
        · exact h
        · rw [h, h2]
      · have := le.len; have := le'.len
        simp only at h3 ⊢
        omega
  · obtain ⟨h1, s, hs, le⟩ := hh i t hi
    exact ⟨h1, le.lt⟩

theorem Imp.of (σ : List (Nat × Nat)) (hσ : ∀ i, i < cx.n0 → sig σ i = i) (hn : cx.n0 ≤ n') (hl : impL l (sig σ) n' l') (hh : impH h (sig σ) n' h')
    (inj : ∀ i j s t, hget h' i = some s → hget h' j = some t → i ≠ j → sig σ i ≠ sig σ j) : Imp cx l h n l' h' n' := by
  intro ρ a w st sh hn0
  refine ⟨fun i => ρ (sig σ i), fun i hi => by simp only [hσ i hi], ⟨st.sz, fun t v ht hb => ?_, st.dfr⟩, sh.imp (sig σ) inj hh, hn⟩
  obtain ⟨e1, e2, e3⟩ := impL_val hl t v ht
  obtain ⟨f1, _⟩ := ev_sound st (.tmp t) (by rw [e1]; exact ren_ok e2)
  rw [e1, den_ren] at f1
  simp only [Act.eval] at f1
  exact ⟨f1, e3⟩
/-- No name changes. -/
theorem Imp.id (hn : cx.n0 ≤ n') (hl : impL l (sig []) n' l') (hh : impH h (sig []) n' h') : Imp cx l h n l' h' n' :=
  Imp.of [] (fun _ _ => rfl) hn hl hh (fun i j _ _ _ _ h => h)
/-- One name changes: a stands for b. -/
theorem Imp.of1 (a b : Nat) (ha : cx.n0 ≤ a) (hb : n' ≤ b) (hn : cx.n0 ≤ n') (hl : impL l (sig [(a, b)]) n' l') (hh : impH h (sig [(a, b)]) n' h') : Imp cx l h n l' h' n' := by
  refine Imp.of [(a, b)] (fun i hi => ?_) hn hl hh (fun i j s t hi hj hij => ?_)
  · have : a ≠ i := by omega
    simp [sig, this]
  · have h1 := (hh i s hi).1
    have h2 := (hh j t hj).1
    simp only [sig]
    split <;> split <;> omega

/-- What a callee leaves may be forgotten in part, or renamed. -/
theorem CallE.imp {P : Program} {f : Nat} {args : List SV} {K K' : HK} (hc : CallE P cx f args h n K)
    (hK : HOk n h → ∀ r h1 n1, K r h1 n1 → ∃ (σ : List (Nat × Nat)) (r' : SV) (h' : List (Nat × Seg)) (n' : Nat), (∀ i, i < n → sig σ i = i) ∧ n ≤ n' ∧ r = ren (sig σ) r' ∧ r'.lt n' ∧ impH h1 (sig σ) n' h' ∧
      (∀ i j s t, hget h' i = some s → hget h' j = some t → i ≠ j → sig σ i ≠ sig σ j) ∧ K' r' h' n') : CallE P cx f args h n K' := by
  obtain ⟨hr, hok, hc⟩ := hc
  refine ⟨hr, hok, fun ρ w sh hargs => (hc ρ w sh hargs).mono fun e w' he => ?_⟩
  obtain ⟨ρ', r, h1, n1, g1, g2, g3, g4, g5, g6⟩ := he
  obtain ⟨σ, r', h', n', k1, k2, rfl, k4, k5, k6, k7⟩ := hK sh.lt r h1 n1 g6
  exact ⟨fun i => ρ' (sig σ i), r', h', n', fun i hi => by rw [g1 i hi]; simp only [k1 i hi], k2, by rw [g3, den_ren], k4, g5.imp (sig σ) k6 k5, k7⟩

theorem CallE.imp0 {P : Program} {f : Nat} {args : List SV} {K K' : HK} (hc : CallE P cx f args h n K)
    (hK : HOk n h → ∀ r h1 n1, K r h1 n1 → ∃ (r' : SV) (h' : List (Nat × Seg)) (n' : Nat), n ≤ n' ∧ r = ren (sig []) r' ∧ r'.lt n' ∧ impH h1 (sig []) n' h' ∧ K' r' h' n') : CallE P cx f args h n K' :=
  hc.imp fun hok r h1 n1 k =>
    let ⟨r', h', n', a1, a2, a3, a4, a5⟩ := hK hok r h1 n1 k
    ⟨[], r', h', n', fun _ _ => rfl, a1, a2, a3, a4, fun i j _ _ _ _ hij => hij, a5⟩
theorem CallE.imp1 {P : Program} {f : Nat} {args : List SV} {K K' : HK} (hc : CallE P cx f args h n K)
    (hK : HOk n h → ∀ r h1 n1, K r h1 n1 → ∃ (b : Nat) (r' : SV) (h' : List (Nat × Seg)) (n' : Nat), n ≤ n' ∧ n' ≤ b ∧ r = ren (sig [(n, b)]) r' ∧ r'.lt n' ∧ impH h1 (sig [(n, b)]) n' h' ∧ K' r' h' n') : CallE P cx f args h n K' :=
  hc.imp fun hok r h1 n1 k =>
    let ⟨b, r', h', n', a1, a0, a2, a3, a4, a5⟩ := hK hok r h1 n1 k
    ⟨[(n, b)], r', h', n', fun i hi => sig_miss _ _ _ _ (by simp; omega), a1, a2, a3, a4, fun i j s t hi hj hij => by
      have h1 := (a4 i s hi).1
      have h2 := (a4 j t hj).1
      simp only [sig]
      split <;> split <;> omega, a5⟩
theorem impH.cons0 {i : Nat} {s t : Seg} (hs : hget h i = some s) (hi : i < n') (hst : SegLe (sig []) n' s t) (H : impH h (sig []) n' h') : impH h (sig []) n' ((i, t) :: h') := impH.cons hi hs hst H
theorem impH.cons1 {a b : Nat} {s t : Seg} (hs : hget h b = some s) (hi : a < n') (hst : SegLe (sig [(a, b)]) n' s t) (H : impH h (sig [(a, b)]) n' h') : impH h (sig [(a, b)]) n' ((a, t) :: h') :=
  impH.cons hi (by rw [sig_hit]; exact hs) hst H
theorem impH.cons2 {a b i : Nat} {s t : Seg} (hs : hget h i = some s) (hi : i < n') (ha : a ≠ i) (hst : SegLe (sig [(a, b)]) n' s t) (H : impH h (sig [(a, b)]) n' h') : impH h (sig [(a, b)]) n' ((i, t) :: h') :=
  impH.cons hi (by rw [sig_miss _ _ _ _ (by simpa using ha)]; exact hs) hst H
theorem impH.base0 {h0 : List (Nat × Seg)} {m : Nat} (hok : HOk m h0) (hm : m ≤ n') (hx : HExt m h0 h) : impH h (sig []) n' h0 := impH.base hok hm (fun _ _ => rfl) hx
theorem impH.base1 {h0 : List (Nat × Seg)} {m a b : Nat} (hok : HOk m h0) (hm : m ≤ n') (ha : m ≤ a) (hx : HExt m h0 h) : impH h (sig [(a, b)]) n' h0 :=
  impH.base hok hm (fun i hi => sig_miss _ _ _ _ (by simp; omega)) hx

/-- The same memory but for one segment. -/
def HBut (i n : Nat) (h h' : List (Nat × Seg)) : Prop := ∀ j, j < n → j ≠ i → ∀ t, hget h j = some t → hget h' j = some t
theorem HBut.cons {i n m : Nat} {h h' : List (Nat × Seg)} {s : Seg} (hb : HBut i n h h') (hm : n ≤ m) : HBut i n h ((m, s) :: h') := fun j hj hji t ht => by
  simp only [hget]; rw [if_neg (by omega)]; exact hb j hj hji t ht
theorem HBut.refl (i n : Nat) (h : List (Nat × Seg)) : HBut i n h h := fun _ _ _ _ h => h
theorem HBut.set (i n : Nat) (h : List (Nat × Seg)) (t : Seg) : HBut i n h (hset h i t) := fun j hj hji u hu => by rw [hget_hset, if_neg (Ne.symm hji)]; exact hu
theorem hget_hset_self {h : List (Nat × Seg)} {i : Nat} {s : Seg} (hs : hget h i = some s) (t : Seg) : hget (hset h i t) i = some t := by rw [hget_hset, if_pos rfl, hs]; rfl
/-- What the caller had, one segment changed. -/
theorem impH.set0 {h0 : List (Nat × Seg)} {m i : Nat} {s0 s t : Seg} (hok : HOk m h0) (hm : m ≤ n') (hs0 : hget h0 i = some s0) (hx : HBut i m h0 h) (hi : hget h i = some s) (le : SegLe (sig []) n' s t) : impH h (sig []) n' (hset h0 i t) := by
  intro j u hu
  rw [hget_hset] at hu
  split at hu
  · rename_i hij; subst hij
    rw [hs0] at hu; cases hu
    exact ⟨Nat.lt_of_lt_of_le (hok i s0 hs0).1 hm, s, hi, le⟩
  · rename_i hij
    obtain ⟨g1, g2⟩ := hok j u hu
    exact ⟨Nat.lt_of_lt_of_le g1 hm, u, hx j g1 (Ne.symm hij) u hu, Nat.le_refl _, id, .inr rfl, fun k hk ρ => rfl, fun k hk => SV.lt_mono hm _ (g2 k hk)⟩
theorem impH.set1 {h0 : List (Nat × Seg)} {m i a b : Nat} {s0 s t : Seg} (hok : HOk m h0) (hm : m ≤ n') (ha : m ≤ a) (hs0 : hget h0 i = some s0) (hx : HBut i m h0 h) (hi : hget h i = some s) (le : SegLe (sig [(a, b)]) n' s t) : impH h (sig [(a, b)]) n' (hset h0 i t) := by
  have hσ : ∀ j, j < m → sig [(a, b)] j = j := fun j hj => sig_miss _ _ _ _ (by simp; omega)
  intro j u hu
  rw [hget_hset] at hu
  split at hu
  · rename_i hij; subst hij
    rw [hs0] at hu; cases hu
    have h1 := (hok i s0 hs0).1
    exact ⟨Nat.lt_of_lt_of_le h1 hm, s, by rw [hσ i h1]; exact hi, le⟩
  · rename_i hij
    obtain ⟨g1, g2⟩ := hok j u hu
    refine ⟨Nat.lt_of_lt_of_le g1 hm, u, by rw [hσ j g1]; exact hx j g1 (Ne.symm hij) u hu, Nat.le_refl _, id, .inr rfl, fun k hk ρ => den_congr (m := m) (fun i hi => by rw [hσ i hi]) _ (g2 k hk), fun k hk => SV.lt_mono hm _ (g2 k hk)⟩

abbrev ST := List (Nat × SV) × List (Nat × Seg) × Nat
/-- A loop, its arguments found. -/
theorem T_lp {P : Program} {ti : Nat → TI} {Q : List (Nat × SV) → List (Nat × Seg) → Nat → Prop} {k : List It} {x : Code} {ι : Type} (I : ι → ST) (μ : ι → Nat) (x0 : ι) (h0 : Imp cx l h n (I x0).1 (I x0).2.1 (I x0).2.2)
    (hr : ∀ i, T P ti cx Q (.code x :: .inv (fun l' h' n' => ∃ j, μ j < μ i ∧ Imp cx l' h' n' (I j).1 (I j).2.1 (I j).2.2) :: k) (I i).1 (I i).2.1 (I i).2.2) :
    T P ti cx Q (.code (.loop x) :: k) l h n := T_loop P ti cx Q k l h n x I μ x0 h0 hr
end
end Go.Proofs.YtfelopllfhcdpaaGreat.V
