/-
  Small facts on numbers of blocks, one for each form that the walk meets: it decides them without a condition.
-/
import Derived.Test.YtlcjepgmmbdkmaaRows
import Derived.WalkKit
namespace Go.Proofs.Ytlcjepgmmbdkmaa

/-- So many blocks and some more. -/
def msz (n c : Nat) : Nat := n + c
@[go_sem] theorem msz_lt (n c b j : Nat) (h : b + 1 ≤ n) : b < msz n c + j := by unfold msz; omega
@[go_sem] theorem msz_lt0 (n c b : Nat) (h : b + 1 ≤ n) : b < msz n c := by unfold msz; omega
@[go_sem] theorem msz_lt2 (n c b j i : Nat) (h : b + 1 ≤ n) : b < msz n c + j + i := by unfold msz; omega
@[go_sem] theorem msz_lt3 (n c b j i k : Nat) (h : b + 1 ≤ n) : b < msz n c + j + i + k := by unfold msz; omega
@[go_sem] theorem msz_lt4 (n c b j i k l : Nat) (h : b + 1 ≤ n) : b < msz n c + j + i + k + l := by unfold msz; omega
@[go_sem] theorem msz_lt5 (n c b j i k l m : Nat) (h : b + 1 ≤ n) : b < msz n c + j + i + k + l + m := by unfold msz; omega
@[go_sem] theorem msz_le (n c b : Nat) (h : b ≤ n) : b ≤ msz n c := by unfold msz; omega
@[go_sem] theorem msz_ne (n c b j : Nat) (h : b + 1 ≤ n) : (b = msz n c + j) = False := by unfold msz; simp; omega
@[go_sem] theorem msz_ne0 (n c b : Nat) (h : b + 1 ≤ n) : (b = msz n c) = False := by unfold msz; simp; omega
@[go_sem] theorem msz_ne' (n c b j : Nat) (h : b + 1 ≤ n) : (msz n c + j = b) = False := by unfold msz; simp; omega
@[go_sem] theorem msz_ne0' (n c b : Nat) (h : b + 1 ≤ n) : (msz n c = b) = False := by unfold msz; simp; omega
@[go_sem] theorem msz_nest (n c d b : Nat) (h : b + 1 ≤ n) : b < msz (msz n c) d := by unfold msz; omega
@[go_sem] theorem msz_nest1 (n c d b j : Nat) (h : b + 1 ≤ n) : b < msz (msz n c + j) d := by unfold msz; omega
@[go_sem] theorem msz_nest2 (n c d b j i : Nat) (h : b + 1 ≤ n) : b < msz (msz n c + j + i) d := by unfold msz; omega
@[go_sem] theorem msz_nest3 (n c d b j i k : Nat) (h : b + 1 ≤ n) : b < msz (msz n c + j + i + k) d := by unfold msz; omega
@[go_sem] theorem msz_nest4 (n c d b j i k l : Nat) (h : b + 1 ≤ n) : b < msz (msz n c + j + i + k + l) d := by unfold msz; omega
@[go_sem] theorem msz_nest1' (n c d b j e : Nat) (h : b + 1 ≤ n) : b < msz (msz n c + j) d + e := by unfold msz; omega
@[go_sem] theorem msz_nest2' (n c d b j i e : Nat) (h : b + 1 ≤ n) : b < msz (msz n c + j + i) d + e := by unfold msz; omega
@[go_sem] theorem msz_nest3' (n c d b j i k e : Nat) (h : b + 1 ≤ n) : b < msz (msz n c + j + i + k) d + e := by unfold msz; omega
@[go_sem] theorem msz_nest4' (n c d b j i k l e : Nat) (h : b + 1 ≤ n) : b < msz (msz n c + j + i + k + l) d + e := by unfold msz; omega
end Go.Proofs.Ytlcjepgmmbdkmaa
